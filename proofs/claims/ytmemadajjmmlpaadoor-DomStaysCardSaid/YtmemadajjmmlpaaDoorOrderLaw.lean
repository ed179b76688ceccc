/-
The nodes in their order: a chain of nexts. No program in sight.
-/
import Derived.Test.YtmemadajjmmlpaaDoorPathLaw
namespace Go.Proofs.YtmemadajjmmlpaaDoor
open Go.RowKit Go.Cl

/-- A node and all below it, in their order. -/
def preF (l : List Nd) : Nat → Int → List Int
  | 0, _ => []
  | f + 1, z => z :: (kidsD l z).flatMap (preF l f)
def preR (l : List Nd) (z : Int) : List Int := preF l (41 - upN l z) z
theorem fm_congr {f g : Int → List Int} : ∀ {xs : List Int}, (∀ x ∈ xs, f x = g x) → xs.flatMap f = xs.flatMap g := by
  intro xs
  induction xs with
  | nil => intro _; rfl
  | cons x r ih =>
    intro h
    rw [List.flatMap_cons, List.flatMap_cons, h x (by simp), ih fun y hy => h y (by simp [hy])]
/-- A chain of nexts, that goes on to e. -/
def Ch (l : List Nd) (xs : List Int) (e : Int) : Prop := ∀ (i : Nat) (x : Int), xs[i]? = some x → nextR l x = (xs[i + 1]?).getD e
theorem Ch.nil (l : List Nd) (e : Int) : Ch l [] e := fun i x h => by simp at h
theorem Ch.app {l : List Nd} {xs ys : List Int} {e e' : Int} (h1 : Ch l xs e) (h2 : Ch l ys e') (he : (ys[0]?).getD e' = e) : Ch l (xs ++ ys) e' := by
  intro i x hx
  by_cases hi : i < xs.length
  · rw [List.getElem?_append_left hi] at hx
    rw [h1 i x hx]
    by_cases hi2 : i + 1 < xs.length
    · rw [List.getElem?_append_left hi2, List.getElem?_eq_getElem hi2]
      rfl
    · rw [List.getElem?_append_right (by omega), List.getElem?_eq_none (l := xs) (by omega), show i + 1 - xs.length = 0 from by omega]
      exact he.symm
  · rw [List.getElem?_append_right (by omega)] at hx
    rw [List.getElem?_append_right (by omega), show i + 1 - xs.length = (i - xs.length) + 1 from by omega]
    exact h2 _ x hx

section
variable {l : List Nd} (T : Tree l)
include T
theorem Tree.pre_step {m : Nat} (hm : m < l.length) : preR l m = (m : Int) :: (kidsD l m).flatMap (preR l) := by
  have hd := (T.deep m hm).1
  have h1 : preR l m = (m : Int) :: (kidsD l m).flatMap (preF l (40 - upN l m)) := by
    unfold preR
    rw [show 41 - upN l m = (40 - upN l m) + 1 from by omega, preF]
  rw [h1]
  congr 1
  apply fm_congr
  intro k hk
  obtain ⟨n, rfl, hn, hp⟩ := T.kid hm hk
  have := (T.up_par hn hp).2
  unfold preR
  rw [show 41 - upN l n = 40 - upN l m from by omega]
theorem Tree.pre_head {m : Nat} (hm : m < l.length) : (preR l m)[0]? = some (m : Int) := by
  rw [T.pre_step hm]
  rfl
theorem Tree.over_kid {m j : Nat} {k : Nat} (hm : m < l.length) (hk : k < l.length) (hp : parD l k = (m : Int)) (hj : (kidsD l m)[j]? = some (k : Int)) : overR l k = ((kidsD l m)[j + 1]?).getD (overR l m) := by
  have hb := T.beside_at hm hp hj 1
  rw [show ((j : Int) + 1).toNat = j + 1 from by omega] at hb
  rw [T.over_step hk, hp]
  by_cases hl : j + 1 < (kidsD l m).length
  · rw [if_neg (by omega)] at hb
    obtain ⟨z, hz⟩ := get_some hl
    obtain ⟨q, rfl, _⟩ := T.kid hm (List.mem_of_getElem? hz)
    rw [hz, Option.getD_some] at hb
    rw [hb, hz, Option.getD_some, if_pos (by omega)]
  · rw [if_pos (by omega)] at hb
    rw [hb, if_neg (by decide), List.getElem?_eq_none (by omega)]
    rfl
/-- The kids from one on. -/
theorem Tree.kids_chain {m : Nat} (hm : m < l.length) (ih : ∀ k ∈ kidsD l m, Ch l (preR l k) (overR l k)) (g : Nat) : ∀ j, j + g = (kidsD l m).length →
    Ch l (((kidsD l m).drop j).flatMap (preR l)) (overR l m) ∧ ((((kidsD l m).drop j).flatMap (preR l))[0]?).getD (overR l m) = ((kidsD l m)[j]?).getD (overR l m) := by
  induction g with
  | zero =>
    intro j hj
    rw [List.drop_of_length_le (by omega), List.getElem?_eq_none (l := kidsD l m) (by omega)]
    exact ⟨Ch.nil _ _, rfl⟩
  | succ g ihg =>
    intro j hj
    obtain ⟨h1, h2⟩ := ihg (j + 1) (by omega)
    have hjl : j < (kidsD l m).length := by omega
    obtain ⟨z, hz⟩ := get_some hjl
    obtain ⟨k, rfl, hk, hp⟩ := T.kid hm (List.mem_of_getElem? hz)
    have hd : (kidsD l m).drop j = (k : Int) :: (kidsD l m).drop (j + 1) := by
      rw [List.drop_eq_getElem_cons hjl, (List.getElem?_eq_some_iff.1 hz).2]
    rw [hd, List.flatMap_cons]
    refine ⟨(ih _ (List.mem_of_getElem? hz)).app h1 (by rw [h2, T.over_kid hm hk hp hz]), ?_⟩
    have hh := T.pre_head hk
    have h0 : 0 < (preR l (k : Int)).length := (List.getElem?_eq_some_iff.1 hh).1
    rw [List.getElem?_append_left h0, hh, hz]
theorem Tree.pre_chain (f : Nat) : ∀ m : Nat, m < l.length → upN l m + f = 41 → Ch l (preR l m) (overR l m) ∧ ∀ x ∈ preR l m, ∃ n : Nat, x = (n : Int) ∧ n < l.length ∧ topR l n = topR l m := by
  induction f with
  | zero =>
    intro m hm hf
    have := (T.deep m hm).1
    omega
  | succ f ih =>
    intro m hm hf
    have hk : ∀ k ∈ kidsD l m, ∃ n : Nat, k = (n : Int) ∧ n < l.length ∧ parD l n = (m : Int) ∧ upN l n + f = 41 := fun k hk => by
      obtain ⟨n, e, hn, hp⟩ := T.kid hm hk
      exact ⟨n, e, hn, hp, by have := (T.up_par hn hp).2; omega⟩
    rw [T.pre_step hm]
    refine ⟨?_, ?_⟩
    · obtain ⟨h1, h2⟩ := T.kids_chain hm (fun k h => by obtain ⟨n, rfl, hn, _, hu⟩ := hk k h; exact (ih n hn hu).1) (kidsD l m).length 0 (by omega)
      rw [List.drop_zero] at h1 h2
      have hs : Ch l [(m : Int)] (((kidsD l m)[0]?).getD (overR l m)) := by
        intro i x hx
        cases i with
        | succ i => simp at hx
        | zero =>
          simp at hx
          subst hx
          show nextR l m = _
          unfold nextR
          cases hks : kidsD l m with
          | nil =>
            have hq : kidR l m false = -1 := by unfold kidR; rw [if_pos hks]
            rw [hq, if_neg (by decide)]
            rfl
          | cons z r =>
            obtain ⟨q, rfl, _⟩ := T.kid hm (k := z) (by rw [hks]; simp)
            have hq : kidR l m false = (q : Int) := by
              unfold kidR
              rw [hks, if_neg (by simp), if_neg (by decide)]
              rfl
            rw [hq, if_pos (by omega)]
            rfl
      exact hs.app h1 h2
    · intro x hx
      rcases List.mem_cons.1 hx with rfl | hx
      · exact ⟨m, rfl, hm, rfl⟩
      · obtain ⟨k, hkm, hx⟩ := List.mem_flatMap.1 hx
        obtain ⟨n, rfl, hn, hp, hu⟩ := hk k hkm
        obtain ⟨q, e, hq, ht⟩ := (ih n hn hu).2 x hx
        exact ⟨q, e, hq, ht.trans (T.top_par hn hm hp)⟩
/-- The whole order. -/
theorem Tree.all_chain : Ch l (preR l 0) (-1) ∧ (preR l 0)[0]? = some 0 ∧ ∀ x ∈ preR l 0, ∃ n : Nat, x = (n : Int) ∧ n < l.length ∧ topR l n = 0 := by
  have h0 : (0 : Nat) < l.length := T.pos
  obtain ⟨h1, h2⟩ := T.pre_chain (41 - upN l (0 : Nat)) 0 h0 (by have := (T.deep 0 h0).1; omega)
  have hr : parD l ((0 : Nat) : Int) = -1 := T.root
  have hov : overR l ((0 : Nat) : Int) = -1 := by
    rw [T.over_step h0, hr, over_end]
    have hb : besideR l ((0 : Nat) : Int) 1 = -1 := by
      unfold besideR
      rw [if_pos (by rw [hr]; decide)]
    rw [hb]
    rfl
  have ht : topR l ((0 : Nat) : Int) = 0 := by
    unfold topR
    rw [T.chain_step h0, hr, chain_end]
    rfl
  rw [hov] at h1
  rw [ht] at h2
  exact ⟨h1, T.pre_head h0, h2⟩
theorem Tree.last_root : lastR l 0 = -1 := by
  have hr : parD l 0 = -1 := T.root
  have hb : besideR l 0 (-1) = -1 := by
    unfold besideR
    rw [if_pos (by rw [hr]; decide)]
  unfold lastR
  rw [hb, if_pos (by decide), hr]
/-- No node comes twice. -/
theorem Tree.all_once (i : Nat) : ∀ j, i < j → ∀ x, (preR l 0)[i]? = some x → (preR l 0)[j]? = some x → False := by
  obtain ⟨hc, h0, hin⟩ := T.all_chain
  have back : ∀ k x y, (preR l 0)[k]? = some x → (preR l 0)[k + 1]? = some y → lastR l y = x ∧ 0 ≤ x := fun k x y hx hy => by
    have h := hc k x hx
    rw [hy, Option.getD_some] at h
    obtain ⟨n, rfl, hn, _⟩ := hin x (List.mem_of_getElem? hx)
    obtain ⟨q, rfl, _⟩ := hin y (List.mem_of_getElem? hy)
    obtain ⟨q', e, _, hl, _⟩ := T.last_next hn h (by omega)
    rw [e]
    exact ⟨hl, by omega⟩
  have bef : ∀ j y, (preR l 0)[j + 1]? = some y → ∃ x, (preR l 0)[j]? = some x := fun j y hy => get_some (by have := (List.getElem?_eq_some_iff.1 hy).1; omega)
  induction i with
  | zero =>
    intro j hj x hx hy
    obtain ⟨j, rfl⟩ : ∃ q, j = q + 1 := ⟨j - 1, by omega⟩
    obtain ⟨z, hz⟩ := bef j x hy
    rw [h0] at hx
    obtain rfl := Option.some.inj hx
    have := back j z 0 hz hy
    rw [T.last_root] at this
    omega
  | succ i ih =>
    intro j hj x hx hy
    obtain ⟨j, rfl⟩ : ∃ q, j = q + 1 := ⟨j - 1, by omega⟩
    obtain ⟨z, hz⟩ := bef j x hy
    obtain ⟨z', hz'⟩ := bef i x hx
    have e1 := (back j z x hz hy).1
    have e2 := (back i z' x hz' hx).1
    rw [e1] at e2
    subst e2
    exact ih j (by omega) z hz' hz
end
theorem few_nats (N : Nat) : ∀ xs : List Int, (∀ (i j : Nat) (x : Int), i < j → xs[i]? = some x → xs[j]? = some x → False) → (∀ x ∈ xs, ∃ n : Nat, x = (n : Int) ∧ n < N) → xs.length ≤ N := by
  intro xs h hin
  have hn : xs.Nodup := List.pairwise_iff_getElem.2 fun i j hi hj hij e => h i j xs[i] hij (List.getElem?_eq_getElem hi) (by rw [List.getElem?_eq_getElem hj, e])
  clear h
  induction N generalizing xs with
  | zero =>
    cases xs with
    | nil => simp
    | cons x r =>
      obtain ⟨n, _, hx⟩ := hin x (by simp)
      omega
  | succ N ih =>
    have h1 := ih (xs.erase (N : Int)) (fun x hx => by
      obtain ⟨hne, hx⟩ := (List.Nodup.mem_erase_iff hn).1 hx
      obtain ⟨n, rfl, hl⟩ := hin x hx
      exact ⟨n, rfl, by omega⟩) (hn.erase _)
    rw [List.length_erase] at h1
    by_cases hm : (N : Int) ∈ xs
    · rw [if_pos hm] at h1
      omega
    · rw [if_neg hm] at h1
      omega
theorem Tree.all_few {l : List Nd} (T : Tree l) : (preR l 0).length ≤ 200 :=
  Nat.le_trans (few_nats l.length _ (fun i j x hij => T.all_once i j hij x) fun x hx => by
    obtain ⟨n, e, hn, _⟩ := T.all_chain.2.2 x hx
    exact ⟨n, e, hn⟩) T.small
end Go.Proofs.YtmemadajjmmlpaaDoor
