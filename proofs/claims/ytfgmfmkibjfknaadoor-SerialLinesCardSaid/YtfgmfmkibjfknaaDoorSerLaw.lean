/-
How much is written of a document that is right. No walk.
-/
import Derived.Test.YtfgmfmkibjfknaaDoorSerHtml3
namespace Go.Proofs.YtfgmfmkibjfknaaDoor
open Go.RowKit Go.Cl

/-- A parent's parent's .. -/
def upI (l : List Nd) : Nat → Int → Int
  | 0, z => z
  | d + 1, z => parD l (upI l d z)
theorem pre_up {l : List Nd} (T : Tree l) (f : Nat) : ∀ m : Nat, m < l.length → upN l m + f = 41 → ∀ x ∈ preR l m, ∃ n d : Nat, x = (n : Int) ∧ n < l.length ∧ upI l d x = (m : Int) ∧ upN l n = upN l m + d := by
  induction f with
  | zero =>
    intro m hm hf
    have := (T.deep m hm).1
    omega
  | succ f ih =>
    intro m hm hf x hx
    rw [T.pre_step hm] at hx
    rcases List.mem_cons.1 hx with rfl | hx
    · exact ⟨m, 0, rfl, hm, rfl, rfl⟩
    · obtain ⟨k, hk, hx⟩ := List.mem_flatMap.1 hx
      obtain ⟨p, rfl, hp, hpar⟩ := T.kid hm hk
      have hu := (T.up_par hp hpar).2
      obtain ⟨n, d, e, hn, h1, h2⟩ := ih p hp (by omega) x hx
      refine ⟨n, d + 1, e, hn, ?_, by omega⟩
      show parD l (upI l d x) = _
      rw [h1, hpar]
theorem pre_nodup {l : List Nd} (T : Tree l) (f : Nat) : ∀ m : Nat, m < l.length → upN l m + f = 41 → (preR l m).Nodup := by
  induction f with
  | zero =>
    intro m hm hf
    have := (T.deep m hm).1
    omega
  | succ f ih =>
    intro m hm hf
    rw [T.pre_step hm]
    have hk : ∀ k ∈ kidsD l m, ∃ p : Nat, k = (p : Int) ∧ p < l.length ∧ upN l p = upN l m + 1 := fun k hk => by
      obtain ⟨p, e, hp, hpar⟩ := T.kid hm hk
      exact ⟨p, e, hp, (T.up_par hp hpar).2⟩
    refine List.nodup_cons.2 ⟨fun h => ?_, ?_⟩
    · obtain ⟨k, hkm, hx⟩ := List.mem_flatMap.1 h
      obtain ⟨p, rfl, hp, hu⟩ := hk k hkm
      obtain ⟨n, d, e, _, _, h2⟩ := pre_up T f p hp (by omega) _ hx
      have : n = m := by omega
      subst this
      omega
    · refine List.pairwise_flatMap.2 ⟨fun k hkm => ?_, ?_⟩
      · obtain ⟨p, rfl, hp, hu⟩ := hk k hkm
        exact ih p hp (by omega)
      · refine List.Pairwise.imp_of_mem ?_ (T.nodup hm)
        intro a b ha hb hab x hx y hy e
        subst e
        obtain ⟨p, rfl, hp, hu⟩ := hk a ha
        obtain ⟨q, rfl, hq, hv⟩ := hk b hb
        obtain ⟨n, d, e1, _, h1, h2⟩ := pre_up T f p hp (by omega) _ hx
        obtain ⟨n', d', e2, _, h3, h4⟩ := pre_up T f q hq (by omega) _ hy
        have hn : n = n' := by omega
        subst hn
        have hd : d = d' := by omega
        subst hd
        exact hab (h1.symm.trans h3)
theorem pre_short {l : List Nd} (T : Tree l) {m : Nat} (hm : m < l.length) : (preR l m).length ≤ l.length := by
  have hd := (T.deep m hm).1
  have h := pre_nodup T (41 - upN l m) m hm (by omega)
  refine few_nats l.length _ (fun i j x hij hi hj => ?_) (fun x hx => ?_)
  · obtain ⟨hi1, hi2⟩ := List.getElem?_eq_some_iff.1 hi
    obtain ⟨hj1, hj2⟩ := List.getElem?_eq_some_iff.1 hj
    have := List.pairwise_iff_getElem.1 h i j hi1 hj1 hij
    rw [hi2, hj2] at this
    exact this rfl
  · obtain ⟨n, _, e, hn, _⟩ := pre_up T (41 - upN l m) m hm (by omega) x hx
    exact ⟨n, e, hn⟩
theorem flat_bound {α β : Type} (g : α → List β) (C : Nat) (xs : List α) (h : ∀ x ∈ xs, (g x).length ≤ C) : (xs.flatMap g).length ≤ C * xs.length := by
  induction xs with
  | nil => simp
  | cons x r ih =>
    rw [List.flatMap_cons, List.length_append, List.length_cons, Nat.mul_succ]
    have h1 := h x (by simp)
    have h2 := ih fun y hy => h y (by simp [hy])
    omega
theorem flat_sum {α β γ : Type} (g : α → List β) (p : α → List γ) (C : Nat) (xs : List α) (h : ∀ x ∈ xs, (g x).length ≤ C * (p x).length) : (xs.flatMap g).length ≤ C * (xs.flatMap p).length := by
  induction xs with
  | nil => simp
  | cons x r ih =>
    rw [List.flatMap_cons, List.flatMap_cons, List.length_append, List.length_append, Nat.mul_add]
    have h1 := h x (by simp)
    have h2 := ih fun y hy => h y (by simp [hy])
    omega
theorem own_bound {l : List Nd} {x : Nd} (h : NOk x) (g : Int → List UInt8) : (nodeH l g x).length ≤ 50000000 + (x.kids.flatMap g).length := by
  have hn := h.name
  have ht := h.text
  have he := esc_len false x.text.data.toList
  rw [bytes_len] at he
  have hd : ((⟨#[60, 33, 68, 79, 67, 84, 89, 80, 69, 32]⟩ : ByteArray) : ByteArray).data.toList.length = 10 := by decide
  have hc : ((⟨#[60, 33, 45, 45]⟩ : ByteArray) : ByteArray).data.toList.length = 4 := by decide
  have hc2 : ((⟨#[45, 45, 62]⟩ : ByteArray) : ByteArray).data.toList.length = 3 := by decide
  unfold nodeH
  split
  · omega
  split
  · simp only [List.length_append, List.length_cons, List.length_nil, bytes_len, hd]
    omega
  split
  · simp only [List.length_append, bytes_len, hc, hc2]
    omega
  split
  · unfold wrTxt
    split
    · rw [bytes_len]; omega
    · omega
  · have ha : (x.attrs.flatMap wrAttr).length ≤ 2300000 * x.attrs.length := flat_bound _ _ _ fun a ha => by
      obtain ⟨h1, h2⟩ := h.vals a ha
      have h3 := esc_len true a.2.data.toList
      rw [bytes_len] at h3
      unfold wrAttr
      simp only [List.length_append, List.length_cons, List.length_nil, bytes_len]
      omega
    have h12 := h.attrs
    have htl : (tailH l g x).length ≤ 1 + (x.kids.flatMap g).length + (3 + x.name.size) := by
      unfold tailH
      split
      · simp
      · simp only [List.length_append, List.length_cons, List.length_nil, bytes_len]
        split
        · simp; omega
        · simp; omega
    unfold elemH
    simp only [List.length_append, List.length_cons, List.length_nil, bytes_len]
    omega
theorem html_bound {l : List Nd} (T : Tree l) (hG : ∀ x ∈ l, NOk x) (f : Nat) : ∀ m : Nat, m < l.length → upN l m + f = 41 → (htmlN l f m).length ≤ 50000000 * (preR l m).length := by
  induction f with
  | zero =>
    intro m hm hf
    have := (T.deep m hm).1
    omega
  | succ f ih =>
    intro m hm hf
    obtain ⟨x, hx⟩ : ∃ x, l[m]? = some x := get_some hm
    rw [htmlN_at hx, T.pre_step hm, List.length_cons, Nat.mul_succ]
    have h1 := own_bound (l := l) (hG x (List.mem_of_getElem? hx)) (htmlN l f)
    have h2 : (x.kids.flatMap (htmlN l f)).length ≤ 50000000 * ((kidsD l m).flatMap (preR l)).length := by
      rw [kidsD_at hx]
      refine flat_sum _ _ _ _ fun z hz => ?_
      obtain ⟨p, rfl, hp, hpar⟩ := T.kid hm (by rw [kidsD_at hx]; exact hz)
      exact ih p hp (by have := (T.up_par hp hpar).2; omega)
    omega
theorem nok_good {l : List Nd} (G : Good l) : ∀ x ∈ l, NOk x := fun x hx => by
  obtain ⟨_, _, ha, ht, hn⟩ := (nodeE_iff x).1 (G.each x hx)
  refine ⟨ha.few, fun a h => ?_, by omega, ht⟩
  obtain ⟨h1, h2⟩ := ha.each a h
  unfold namedR at h1
  simp only [Bool.and_eq_true, decide_eq_true_eq] at h1
  omega
theorem html_small {l : List Nd} (G : Good l) {m : Nat} (hm : m < l.length) : (htmlN l (41 - upN l m) m).length ≤ 10000000000 := by
  have T := tree_of (check_of G)
  have h1 := html_bound T (nok_good G) (41 - upN l m) m hm (by have := (T.deep m hm).1; omega)
  have h2 := pre_short T hm
  have h3 := G.small
  omega
/-- What serial.HTML says. -/
def htmlR (l : List Nd) (z : Int) : List UInt8 × Int :=
  if checkD l ≠ 0 then ([], checkD l) else if z < 0 ∨ (l.length : Int) ≤ z then ([], 1) else (htmlN l (41 - upN l z) z, 0)
end Go.Proofs.YtfgmfmkibjfknaaDoor
