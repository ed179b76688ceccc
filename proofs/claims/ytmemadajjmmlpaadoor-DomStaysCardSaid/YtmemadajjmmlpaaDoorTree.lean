/-
Documents that are right, as trees: up and down, beside, next and last. No program in sight.
-/
import Derived.Test.YtmemadajjmmlpaaDoorDomUp
import Derived.Test.YtmemadajjmmlpaaDoorDomCheck
import Derived.Lib.Slices
namespace Go.Proofs.YtmemadajjmmlpaaDoor
open Go.RowKit Go.Cl

/-- A node's parent; a node's kids. -/
def parD (l : List Nd) (m : Int) : Int := if m < 0 then -1 else (l.map Nd.parent)[m.toNat]?.getD (-1)
def kidsD (l : List Nd) (m : Int) : List Int := (l.map Nd.kids)[m.toNat]?.getD []
theorem parD_at {l : List Nd} {m : Nat} {x : Nd} (h : l[m]? = some x) : parD l m = x.parent := by
  unfold parD
  rw [if_neg (by omega), Int.toNat_natCast, map_at h]
theorem kidsD_at {l : List Nd} {m : Nat} {x : Nd} (h : l[m]? = some x) : kidsD l m = x.kids := by
  unfold kidsD
  rw [Int.toNat_natCast, map_at h]

/-- A document that is right. -/
structure Tree (l : List Nd) : Prop where
  small : l.length ≤ 200
  pos : 0 < l.length
  kr : KidsRight l
  deep : ∀ m : Nat, m < l.length → upN l m ≤ 40 ∧ upN l m ≤ l.length
theorem last_all {l : List Nd} (r : List Nat) (h : lastE l r = 0) : ∀ i ∈ r, ¬ l.length < upN l i ∧ ¬ 40 < upN l i := by
  induction r with
  | nil => intro i hi; cases hi
  | cons j r ih =>
    rw [lastE] at h
    by_cases h1 : l.length < upN l j
    · rw [if_pos h1] at h; cases h
    · rw [if_neg h1] at h
      by_cases h2 : 40 < upN l j
      · rw [if_pos h2] at h; cases h
      · rw [if_neg h2] at h
        intro i hi
        rcases List.mem_cons.1 hi with rfl | hi
        · exact ⟨h1, h2⟩
        · exact ih h i hi
theorem tree_of {l : List Nd} (h : checkD l = 0) : Tree l := by
  unfold checkD at h
  by_cases h1 : 200 < l.length
  · rw [if_pos h1] at h; cases h
  rw [if_neg h1] at h
  by_cases h2 : l.length = 0
  · rw [if_pos h2] at h; cases h
  rw [if_neg h2] at h
  by_cases h3 : firstE 0 l = 0
  · rw [if_neg (by rw [h3]; decide)] at h
    by_cases h4 : kidsE l = 0
    · rw [if_neg (by rw [h4]; decide)] at h
      exact ⟨by omega, by omega, kids_right (by omega) h4, fun m hm => by
        have := last_all _ h m (by simpa using hm)
        omega⟩
    · rw [if_pos h4] at h; exact absurd h h4
  · rw [if_pos h3] at h; exact absurd h h3

section
variable {l : List Nd} (T : Tree l)
include T
theorem Tree.kid {p : Nat} (hp : p < l.length) {k : Int} (hk : k ∈ kidsD l p) : ∃ m : Nat, k = (m : Int) ∧ m < l.length ∧ parD l m = (p : Int) := by
  obtain ⟨x, hx⟩ := get_some (l := l) hp
  rw [kidsD_at hx] at hk
  obtain ⟨m, y, rfl, hy, hpar, _⟩ := (T.kr.kids p x hx).2 k hk
  exact ⟨m, rfl, (List.getElem?_eq_some_iff.1 hy).1, by rw [parD_at hy, hpar]⟩
theorem Tree.nodup {p : Nat} (hp : p < l.length) : (kidsD l p).Nodup := by
  obtain ⟨x, hx⟩ := get_some (l := l) hp
  rw [kidsD_at hx]
  exact (T.kr.kids p x hx).1
theorem Tree.par {m : Nat} (hm : m < l.length) : parD l m = -1 ∨ ∃ p : Nat, parD l m = (p : Int) ∧ p < l.length ∧ (m : Int) ∈ kidsD l p := by
  obtain ⟨x, hx⟩ := get_some (l := l) hm
  by_cases h : x.parent = -1
  · exact Or.inl (by rw [parD_at hx, h])
  · obtain ⟨j, y, hy, hk⟩ := T.kr.known m x hx h
    obtain ⟨m', z, e, hz, hp, _⟩ := (T.kr.kids j y hy).2 _ hk
    have : m = m' := by omega
    subst this
    rw [hx] at hz
    obtain rfl := Option.some.inj hz
    exact Or.inr ⟨j, by rw [parD_at hx, hp], (List.getElem?_eq_some_iff.1 hy).1, by rw [kidsD_at hy]; exact hk⟩
theorem Tree.root : parD l 0 = -1 := by
  obtain ⟨x, hx⟩ := get_some (l := l) T.pos
  have := parD_at hx
  rw [T.kr.top x hx] at this
  exact this
end

/-! ### how deep -/
theorem upF_sat (l : List Nd) (f : Nat) : ∀ z : Int, upF l (f + 1) z ≤ f → upF l f z = upF l (f + 1) z := by
  induction f with
  | zero =>
    intro z h
    show 0 = _
    omega
  | succ f ih =>
    intro z h
    rw [upF] at h
    conv => lhs; rw [upF]
    conv => rhs; rw [upF]
    try simp only at h ⊢
    by_cases hp : 0 ≤ (l.map Nd.parent)[z.toNat]?.getD (-1)
    · rw [if_pos hp] at h
      rw [if_pos hp, if_pos hp, ih _ (by omega)]
    · rw [if_neg hp, if_neg hp]
theorem Tree.up_par {l : List Nd} (T : Tree l) {m p : Nat} (hm : m < l.length) (h : parD l m = (p : Int)) : p < l.length ∧ upN l m = upN l p + 1 := by
  rcases T.par hm with e | ⟨q, e, hq, _⟩
  · omega
  · have : p = q := by omega
    subst this
    obtain ⟨x, hx⟩ := get_some (l := l) hm
    refine ⟨hq, ?_⟩
    have hd := (T.deep p hq).2
    unfold upN at hd ⊢
    rw [upF_go hx (by rw [← parD_at hx]; exact h)]
    rw [upF_sat l l.length p hd]
/-- How many steps are left up to the top; none where no node is. -/
def depZ (l : List Nd) (z : Int) : Nat := if z < 0 then 0 else upN l z + 1
theorem Tree.dep_par {l : List Nd} (T : Tree l) {m : Nat} (hm : m < l.length) : depZ l (parD l m) + 1 = depZ l m := by
  have h0 : depZ l m = upN l m + 1 := by unfold depZ; rw [if_neg (by omega)]
  rcases T.par hm with e | ⟨p, e, hp, _⟩
  · obtain ⟨x, hx⟩ := get_some (l := l) hm
    have hz : upN l m = 0 := by
      unfold upN
      exact upF_stop hx (by rw [← parD_at hx, e]; decide)
    rw [h0, e, hz]
    rfl
  · rw [h0, e, (T.up_par hm e).2]
    unfold depZ
    rw [if_neg (by omega)]

/-! ### kid, beside, over, next, last -/
def kidR (l : List Nd) (m : Int) (last : Bool) : Int := if kidsD l m = [] then -1 else if last then (kidsD l m).getLastD 0 else (kidsD l m).headD 0
def besideR (l : List Nd) (m b : Int) : Int :=
  if parD l m < 0 then -1
  else
    let i := Lib.idxOf (kidsD l (parD l m)) m + b
    if i < 0 ∨ ((kidsD l (parD l m)).length : Int) ≤ i then -1 else (kidsD l (parD l m))[i.toNat]?.getD 0
def overF (l : List Nd) : Nat → Int → Int
  | 0, _ => -1
  | f + 1, z => if 0 ≤ besideR l z 1 then besideR l z 1 else overF l f (parD l z)
def overR (l : List Nd) (z : Int) : Int := overF l (depZ l z) z
def nextR (l : List Nd) (m : Int) : Int := if 0 ≤ kidR l m false then kidR l m false else overR l m
def descF (l : List Nd) : Nat → Int → Int
  | 0, z => z
  | f + 1, z => if 0 ≤ kidR l z true then descF l f (kidR l z true) else z
def descR (l : List Nd) (z : Int) : Int := descF l (41 - upN l z) z
def lastR (l : List Nd) (m : Int) : Int := if besideR l m (-1) < 0 then parD l m else descR l (besideR l m (-1))
def stepR (l : List Nd) (m how : Int) : Int :=
  if how = 1 then nextR l m else if how = 2 then lastR l m else if how = 3 then overR l m else if how = 4 ∨ how = 5 then kidR l m (how == 5)
  else if how = 6 then besideR l m 1 else if how = 7 then besideR l m (-1) else parD l m

theorem over_end (l : List Nd) : overR l (-1) = -1 := rfl
theorem Tree.over_step {l : List Nd} (T : Tree l) {m : Nat} (hm : m < l.length) : overR l m = if 0 ≤ besideR l m 1 then besideR l m 1 else overR l (parD l m) := by
  unfold overR
  rw [← T.dep_par hm, overF]
theorem idx_of_mem {ks : List Int} {x : Int} (h : x ∈ ks) : ∃ i : Nat, Lib.idxOf ks x = (i : Int) ∧ ks[i]? = some x ∧ ∀ j, j < i → ks[j]? ≠ some x := by
  have hi : ∃ i, ks.findIdx? (· == x) = some i := by
    cases hf : ks.findIdx? (· == x) with
    | none =>
      have := List.findIdx?_eq_none_iff.1 hf x h
      simp at this
    | some i => exact ⟨i, rfl⟩
  obtain ⟨i, hi⟩ := hi
  obtain ⟨hl, he, hne⟩ := List.findIdx?_eq_some_iff_getElem.1 hi
  have hx : ks[i]? = some x := by
    rw [List.getElem?_eq_getElem hl]
    simpa using he
  have hn : ∀ j, j < i → ks[j]? ≠ some x := fun j hj e => by
    have := hne j hj
    have hjl := (List.getElem?_eq_some_iff.1 e)
    simp [hjl.2] at this
  refine ⟨i, ?_, hx, hn⟩
  have := Lib.idxOf_hit ks ks.length i x hl (Nat.le_refl _) (by simp [List.getD, hx]) (fun j hj e => hn j hj (by
    have hjl : j < ks.length := by omega
    rw [List.getElem?_eq_getElem hjl]
    simp [List.getD, List.getElem?_eq_getElem hjl] at e
    rw [e]))
  rwa [List.take_length] at this
theorem idx_uniq {ks : List Int} (hn : ks.Nodup) {x : Int} {i : Nat} (h : ks[i]? = some x) : Lib.idxOf ks x = (i : Int) := by
  obtain ⟨j, hj, hx, _⟩ := idx_of_mem (List.mem_of_getElem? h)
  rw [hj]
  have hi := (List.getElem?_eq_some_iff.1 h)
  have hjl := (List.getElem?_eq_some_iff.1 hx)
  have : i = j := by
    rcases Nat.lt_trichotomy i j with h1 | h1 | h1
    · exact absurd (hi.2.trans hjl.2.symm) (List.pairwise_iff_getElem.1 hn i j hi.1 hjl.1 h1)
    · exact h1
    · exact absurd (hjl.2.trans hi.2.symm) (List.pairwise_iff_getElem.1 hn j i hjl.1 hi.1 h1)
  rw [this]

section
variable {l : List Nd} (T : Tree l)
include T
/-- Beside: a kid of the same parent, so many on. -/
theorem Tree.beside_some {m : Nat} (hm : m < l.length) {b k : Int} (h : besideR l m b = k) (hk : 0 ≤ k) :
    ∃ (p i j : Nat) (n : Nat), parD l m = (p : Int) ∧ p < l.length ∧ (kidsD l p)[i]? = some (m : Int) ∧ (j : Int) = i + b ∧ k = (n : Int) ∧ (kidsD l p)[j]? = some (n : Int) ∧ n < l.length ∧ parD l n = (p : Int) := by
  unfold besideR at h
  rcases T.par hm with e | ⟨p, e, hp, hmem⟩
  · rw [if_pos (by omega)] at h; omega
  · rw [if_neg (by omega), e] at h
    obtain ⟨i, hi, hx, _⟩ := idx_of_mem hmem
    simp only [hi] at h
    by_cases hr : (i : Int) + b < 0 ∨ ((kidsD l p).length : Int) ≤ (i : Int) + b
    · rw [if_pos hr] at h; omega
    · rw [if_neg hr] at h
      obtain ⟨z, hz⟩ := get_some (l := kidsD l p) (k := ((i : Int) + b).toNat) (by omega)
      rw [hz, Option.getD_some] at h
      subst h
      obtain ⟨n, rfl, hn, hpar⟩ := T.kid hp (List.mem_of_getElem? hz)
      exact ⟨p, i, ((i : Int) + b).toNat, n, e, hp, hx, by omega, rfl, hz, hn, hpar⟩
theorem Tree.beside_at {m p i : Nat} (hp : p < l.length) (e : parD l m = (p : Int)) (hx : (kidsD l p)[i]? = some (m : Int)) (b : Int) :
    besideR l m b = if (i : Int) + b < 0 ∨ ((kidsD l p).length : Int) ≤ (i : Int) + b then -1 else (kidsD l p)[((i : Int) + b).toNat]?.getD 0 := by
  unfold besideR
  rw [if_neg (by omega), e]
  simp only [idx_uniq (T.nodup hp) hx]
/-- What is beside a node is undone. -/
theorem Tree.beside_back {m : Nat} (hm : m < l.length) {b k : Int} (h : besideR l m b = k) (hk : 0 ≤ k) : besideR l k (-b) = m := by
  obtain ⟨p, i, j, n, e, hp, hx, hj, rfl, hz, hn, hpn⟩ := T.beside_some hm h hk
  have hi := (List.getElem?_eq_some_iff.1 hx).1
  rw [T.beside_at hp hpn hz, if_neg (by omega), show ((j : Int) + -b).toNat = i from by omega, hx]
  rfl
theorem Tree.kid_first {m : Nat} (hm : m < l.length) (h : 0 ≤ kidR l m false) : ∃ n : Nat, kidR l m false = (n : Int) ∧ n < l.length ∧ parD l n = (m : Int) ∧ (kidsD l m)[0]? = some (n : Int) := by
  unfold kidR at h ⊢
  cases hk : kidsD l m with
  | nil => rw [hk, if_pos rfl] at h; omega
  | cons a r =>
    rw [if_neg (by simp), if_neg (by decide)]
    obtain ⟨n, rfl, hn, hp⟩ := T.kid hm (k := a) (by rw [hk]; simp)
    exact ⟨n, rfl, hn, hp, rfl⟩
theorem Tree.kid_last {m : Nat} (hm : m < l.length) (h : 0 ≤ kidR l m true) : ∃ n : Nat, kidR l m true = (n : Int) ∧ n < l.length ∧ parD l n = (m : Int) ∧ (kidsD l m)[(kidsD l m).length - 1]? = some (n : Int) := by
  unfold kidR at h ⊢
  by_cases hk : kidsD l m = []
  · rw [if_pos hk] at h; omega
  · rw [if_neg hk, if_pos rfl]
    have hg : (kidsD l m).getLastD 0 = (kidsD l m).getLast hk := by
      rw [List.getLastD_eq_getLast?, List.getLast?_eq_some_getLast hk]
      rfl
    rw [hg]
    obtain ⟨n, hn', hn, hp⟩ := T.kid hm (List.getLast_mem hk)
    refine ⟨n, hn', hn, hp, ?_⟩
    rw [← hn', List.getLast_eq_getElem]
    have : 0 < (kidsD l m).length := List.length_pos_iff.2 hk
    rw [List.getElem?_eq_getElem]
theorem Tree.kid_none {m : Nat} (h : ¬ 0 ≤ kidR l m true) (hm : m < l.length) : kidsD l m = [] := by
  by_cases hk : kidsD l m = []
  · exact hk
  · exfalso
    apply h
    unfold kidR
    rw [if_neg hk, if_pos rfl]
    have hg : (kidsD l m).getLastD 0 = (kidsD l m).getLast hk := by
      rw [List.getLastD_eq_getLast?, List.getLast?_eq_some_getLast hk]
      rfl
    rw [hg]
    obtain ⟨n, hn', _, _⟩ := T.kid hm (List.getLast_mem hk)
    omega
theorem Tree.desc_step {m : Nat} (hm : m < l.length) : descR l m = if 0 ≤ kidR l m true then descR l (kidR l m true) else m := by
  by_cases h : 0 ≤ kidR l m true
  · obtain ⟨n, hn, hnl, hp, _⟩ := T.kid_last hm h
    rw [if_pos h]
    unfold descR
    have hu := (T.up_par hnl hp).2
    have hd := (T.deep n hnl).1
    rw [hn, show 41 - upN l m = (41 - upN l n) + 1 from by omega, descF, if_pos h, hn]
  · rw [if_neg h]
    unfold descR
    cases hq : 41 - upN l m with
    | zero => rfl
    | succ f => rw [descF, if_neg h]
end

/-! ### next and last undo each other -/
section
variable {l : List Nd} (T : Tree l)
include T
/-- A node that is the last kid has nothing beside it. -/
theorem Tree.beside_last {p n : Nat} (hp : p < l.length) (hpar : parD l n = (p : Int)) (hx : (kidsD l p)[(kidsD l p).length - 1]? = some (n : Int)) : besideR l n 1 = -1 := by
  have hl := (List.getElem?_eq_some_iff.1 hx).1
  rw [T.beside_at hp hpar hx, if_pos (Or.inr (by omega))]
/-- Going down by last kids, and back over. -/
theorem Tree.over_desc (f : Nat) : ∀ m : Nat, m < l.length → upN l m + f = 41 → ∃ k : Nat, descR l m = (k : Int) ∧ k < l.length ∧ kidsD l k = [] ∧ overR l k = (if 0 ≤ besideR l m 1 then besideR l m 1 else overR l (parD l m)) := by
  induction f with
  | zero =>
    intro m hm hf
    have := (T.deep m hm).1
    omega
  | succ f ih =>
    intro m hm hf
    by_cases h : 0 ≤ kidR l m true
    · obtain ⟨n, hn, hnl, hp, hlast⟩ := T.kid_last hm h
      have hu := (T.up_par hnl hp).2
      obtain ⟨k, hk, hkl, hkn, ho⟩ := ih n hnl (by omega)
      refine ⟨k, by rw [T.desc_step hm, if_pos h, hn]; exact hk, hkl, hkn, ?_⟩
      rw [ho, T.beside_last hm hp hlast, if_neg (by decide), hp, T.over_step hm]
    · exact ⟨m, by rw [T.desc_step hm, if_neg h], hm, T.kid_none h hm, T.over_step hm⟩
/-- What is over a node: beside one above it, and going down from there one comes back. -/
theorem Tree.over_some (f : Nat) : ∀ m : Nat, m < l.length → upN l m < f → ∀ k : Int, overR l m = k → 0 ≤ k →
    ∃ (a n : Nat), a < l.length ∧ n < l.length ∧ k = (n : Int) ∧ besideR l a 1 = (n : Int) ∧ descR l a = descR l m := by
  induction f with
  | zero => intro m hm hf; omega
  | succ f ih =>
    intro m hm hf k hk h0
    rw [T.over_step hm] at hk
    by_cases h : 0 ≤ besideR l m 1
    · rw [if_pos h] at hk
      obtain ⟨p, i, j, n, _, _, _, _, e, _, hn, _⟩ := T.beside_some hm hk h0
      exact ⟨m, n, hm, hn, e, by rw [hk, e], rfl⟩
    · rw [if_neg h] at hk
      rcases T.par hm with e | ⟨p, e, hp, hmem⟩
      · rw [e, over_end] at hk; omega
      · rw [e] at hk
        have hu := (T.up_par hm e).2
        obtain ⟨a, n, ha, hn, ek, hb, hd⟩ := ih p hp (by omega) k hk h0
        refine ⟨a, n, ha, hn, ek, hb, ?_⟩
        rw [hd, T.desc_step hp]
        obtain ⟨i, hi, hx, _⟩ := idx_of_mem hmem
        have hil := (List.getElem?_eq_some_iff.1 hx).1
        have hlast : i = (kidsD l p).length - 1 := by
          by_cases hl : i + 1 < (kidsD l p).length
          · exfalso
            apply h
            rw [T.beside_at hp e hx, if_neg (by omega)]
            obtain ⟨z, hz⟩ := get_some hl
            rw [show ((i : Int) + 1).toNat = i + 1 from by omega, hz, Option.getD_some]
            obtain ⟨q, rfl, _⟩ := T.kid hp (List.mem_of_getElem? hz)
            omega
          · omega
        have hkid : kidR l p true = (m : Int) := by
          unfold kidR
          have hne : kidsD l p ≠ [] := List.length_pos_iff.1 (by omega)
          rw [if_neg hne, if_pos rfl, List.getLastD_eq_getLast?, List.getLast?_eq_getElem?, ← hlast, hx]
          rfl
        rw [hkid, if_pos (by omega)]
/-- Next, and last: where one was. -/
theorem Tree.last_next {m : Nat} (hm : m < l.length) {k : Int} (h : nextR l m = k) (h0 : 0 ≤ k) : ∃ n : Nat, k = (n : Int) ∧ n < l.length ∧ lastR l n = m ∧ (parD l n = (m : Int) ∨ ∃ a : Nat, a < l.length ∧ besideR l a 1 = (n : Int)) := by
  unfold nextR at h
  by_cases hf : 0 ≤ kidR l m false
  · rw [if_pos hf] at h
    obtain ⟨n, hn, hnl, hp, hx⟩ := T.kid_first hm hf
    refine ⟨n, by rw [← h, hn], hnl, ?_, Or.inl hp⟩
    unfold lastR
    rw [T.beside_at hm hp hx, if_pos (Or.inl (by decide)), if_pos (by decide), hp]
  · rw [if_neg hf] at h
    obtain ⟨a, n, ha, hn, e, hb, hd⟩ := T.over_some (upN l m + 1) m hm (by omega) k h h0
    refine ⟨n, e, hn, ?_, Or.inr ⟨a, ha, hb⟩⟩
    have hback := T.beside_back ha hb (by omega)
    unfold lastR
    rw [hback, if_neg (by omega), hd, T.desc_step hm, if_neg]
    intro hl
    apply hf
    obtain ⟨q, _, _, _, hq⟩ := T.kid_last hm hl
    unfold kidR
    cases hk : kidsD l m with
    | nil => rw [hk] at hq; simp at hq
    | cons z r =>
      rw [if_neg (by simp), if_neg (by decide)]
      obtain ⟨q, rfl, _⟩ := T.kid hm (k := z) (by rw [hk]; simp)
      show (0 : Int) ≤ q
      omega
/-- Last, and next: where one was. -/
theorem Tree.next_last {m : Nat} (hm : m < l.length) {k : Int} (h : lastR l m = k) (h0 : 0 ≤ k) : ∃ n : Nat, k = (n : Int) ∧ n < l.length ∧ nextR l n = m := by
  unfold lastR at h
  by_cases hb : besideR l m (-1) < 0
  · rw [if_pos hb] at h
    rcases T.par hm with e | ⟨p, e, hp, hmem⟩
    · omega
    · refine ⟨p, by omega, hp, ?_⟩
      obtain ⟨i, hi, hx, _⟩ := idx_of_mem hmem
      have hil := (List.getElem?_eq_some_iff.1 hx).1
      have hi0 : i = 0 := by
        by_cases hi0 : i = 0
        · exact hi0
        · exfalso
          rw [T.beside_at hp e hx, if_neg (by omega)] at hb
          obtain ⟨z, hz⟩ := get_some (l := kidsD l p) (k := ((i : Int) + -1).toNat) (by omega)
          rw [hz, Option.getD_some] at hb
          obtain ⟨q, rfl, _⟩ := T.kid hp (List.mem_of_getElem? hz)
          omega
      subst hi0
      have hkid : kidR l p false = (m : Int) := by
        unfold kidR
        cases hk : kidsD l p with
        | nil => rw [hk] at hx; cases hx
        | cons z r =>
          rw [hk] at hx
          rw [if_neg (by simp), if_neg (by decide)]
          simpa using hx
      unfold nextR
      rw [hkid, if_pos (by omega)]
  · rw [if_neg hb] at h
    obtain ⟨p, i, j, n, _, _, _, _, e, _, hn, _⟩ := T.beside_some hm rfl (by omega : 0 ≤ besideR l m (-1))
    have hback := T.beside_back hm rfl (by omega : 0 ≤ besideR l m (-1))
    rw [e] at h hback
    obtain ⟨q, hq, hql, hqn, ho⟩ := T.over_desc (41 - upN l n) n hn (by have := (T.deep n hn).1; omega)
    refine ⟨q, by rw [← h, hq], hql, ?_⟩
    have hb1 : besideR l n 1 = (m : Int) := by simpa using hback
    unfold nextR
    have hk0 : kidR l q false = -1 := by unfold kidR; rw [if_pos hqn]
    rw [hk0, if_neg (by decide), ho, hb1, if_pos (by omega)]
end
end Go.Proofs.YtmemadajjmmlpaaDoor
