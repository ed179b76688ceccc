/-
What texts over documents share: a node and all above it; the way down; rows of ints. The contracts of slices.Index and few.
-/
import Derived.Test.YtmemadajjmmlpaaDoorTree
namespace Go.Proofs.YtmemadajjmmlpaaDoor
open Go.RowKit Go.Cl
attribute [local go_sem ↓] Go.wp_at_zero Go.wp_at_succ

theorem DocAt.more {w : World} {B B' b o n : Nat} {l : List Nd} (h : DocAt w B b o n l) (hB : B ≤ B') : DocAt w B' b o n l :=
  ⟨h.hn, fun i x hx => by
    obtain ⟨Aa, na, ca, Ak, nk, ck, hn, r⟩ := h.at_ i x hx
    exact ⟨Aa, na, ca, Ak, nk, ck, ⟨hn.attrs.up hB, hn.kids.up hB, hn.kind, hn.name, hn.text, hn.parent⟩, r⟩, Nat.lt_of_lt_of_le h.lt hB⟩
theorem index_int (A : Option Addr) (n c : Nat) (l : List Int) (x : Int) (w : World) (D : Nat → Prop) (hl : Sl (tInt .i64) w D A n c l) :
    Calls Tryd.prog 65 #[.slice A n c, .int .i64 x] w fun e w' => e = .returned (.int .i64 (Lib.idxOf l x)) ∧ w' = w := by
  rcases Nat.eq_zero_or_pos n with h0 | h0
  · subst h0
    obtain rfl : l = [] := List.eq_nil_of_length_eq_zero hl.hn.symm
    exact Tryd.slices_Index_int_empty A c x w
  · obtain ⟨b, o, cells, rfl, hb, hr, hc⟩ := hl.at_ h0
    have hn := hl.hn
    refine (Tryd.slices_Index_int b o n c l x w (by omega) (by have := hl.small; omega) (fun j hj => ?_)).mono fun e w' h => ⟨by rw [h.1, hn, List.take_length], h.2⟩
    obtain ⟨b', o', e, _, hcell, _⟩ := hl.int (List.getElem?_eq_getElem hj)
    simp only [Option.some.injEq, Addr.mk.injEq] at e
    obtain ⟨rfl, rfl, _⟩ := e
    rw [hcell, List.getD_eq_getElem?_getD, List.getElem?_eq_getElem hj]; rfl

/-- A node, and all above it. -/
def chainF (l : List Nd) : Nat → Int → List Int
  | 0, _ => []
  | f + 1, z => z :: chainF l f (parD l z)
def chainR (l : List Nd) (z : Int) : List Int := chainF l (depZ l z) z
theorem chain_end (l : List Nd) : chainR l (-1) = [] := rfl
theorem Tree.chain_step {l : List Nd} (T : Tree l) {m : Nat} (hm : m < l.length) : chainR l m = (m : Int) :: chainR l (parD l m) := by
  unfold chainR
  rw [← T.dep_par hm, chainF]
theorem Tree.chain_len {l : List Nd} (T : Tree l) {m : Nat} (hm : m < l.length) : (chainR l m).length ≤ 41 := by
  have h : ∀ f z, (chainF l f z).length = f := by
    intro f
    induction f with
    | zero => intro z; rfl
    | succ f ih => intro z; rw [chainF, List.length_cons, ih]
  have := (T.deep m hm).1
  unfold chainR depZ
  rw [h, if_neg (by omega)]
  omega

theorem own_rev {w : World} {base g n c k : Nat} {xs : List Int} (h : OwnF (tInt .i64) w base 3 (.slice (some ⟨g, 0, none⟩) n c) n xs) :
    OwnF (tInt .i64) ((w.drewN k).setCells g 0 (xs.reverse.map (Value.int .i64))) base 3 (.slice (some ⟨g, 0, none⟩) n c) n xs.reverse ∧ (base ≤ g → Below base w ((w.drewN k).setCells g 0 (xs.reverse.map (Value.int .i64)))) := by
  have hln := Own.len h (by decide)
  obtain ⟨cells, h1, h2⟩ := h
  have hbl : ∀ (vs : List Value) (o : Nat) (W : World), base ≤ g → Below base w W → Below base w (W.setCells g o vs) := by
    intro vs
    induction vs with
    | nil => intro o W _ hW; exact hW
    | cons v r ih => intro o W hg hW; exact ih (o + 1) _ hg (hW.setCell (p := ⟨g, o, none⟩) hg v)
  refine ⟨?_, fun hg => hbl _ 0 _ hg (below_dN (Below.refl _ _) _)⟩
  have hwf : ∀ x ∈ xs, (Lit.int .i64 x).wf = true := by
    intro x hx
    obtain ⟨i, hi⟩ := List.mem_iff_getElem?.1 hx
    obtain ⟨cs, ⟨_, hr⟩, _⟩ := h2.at_ hi
    exact hr
  have hrow : ∀ ys : List Int, (∀ x ∈ ys, (Lit.int .i64 x).wf = true) → Row (tInt .i64) ((w.drewN k).setCells g 0 (xs.reverse.map (Value.int .i64))) (fun _ => False) ys (ys.map (Value.int .i64)) := by
    intro ys
    induction ys with
    | nil => intro _; exact Row.nil
    | cons y ys ih => intro hy; exact ⟨[.int .i64 y], _, rfl, ⟨rfl, hy y (by simp)⟩, ih (fun x hx => hy x (by simp [hx]))⟩
  refine ⟨xs.reverse.map (Value.int .i64), ⟨by simp [tInt, hln], ?_⟩, hrow _ (fun x hx => hwf x (by simpa using hx))⟩
  rcases h1.2 with ⟨hv, h0⟩ | ⟨g', cap, cur, hv, hb, hh, hnc, hcm, hsz, htk⟩
  · cases hv
  · simp only [Value.slice.injEq, Option.some.injEq, Addr.mk.injEq, and_true, true_and] at hv
    obtain ⟨rfl, rfl⟩ := hv
    have hs1 : (tInt .i64).size = 1 := rfl
    rw [hs1, Nat.mul_one] at hsz htk
    have hh' : (w.drewN k).heap[g]? = some (.cells cur 3 (0, 0)) := hh
    obtain ⟨cur', e1, e2, e3⟩ := heap_setCells (xs.reverse.map (Value.int .i64)) 0 (w.drewN k) cur hh' (by simp; omega)
    refine .inr ⟨g, c, cur', rfl, hb, e1, hnc, hcm, by rw [e2, hs1, Nat.mul_one]; exact hsz, ?_⟩
    rw [e3, hs1, Nat.mul_one]
    simp only [List.take_zero, List.nil_append, Nat.zero_add]
    rw [List.take_append_of_le_length (by simp; omega), List.take_of_length_le (by simp; omega)]

/-- The node on top of all above a node. -/
def topR (l : List Nd) (m : Int) : Int := (chainR l m).reverse.headD 0
/-- From the top down to a node. -/
def pathL (l : List Nd) (m : Int) : List Int := (chainR l m).reverse
/-- All nodes of a chain are nodes. -/
theorem Tree.chain_in {l : List Nd} (T : Tree l) (f : Nat) : ∀ m : Nat, m < l.length → upN l m < f → ∀ x ∈ chainR l m, ∃ k : Nat, x = (k : Int) ∧ k < l.length := by
  induction f with
  | zero => intro m hm hf; omega
  | succ f ih =>
    intro m hm hf x hx
    rw [T.chain_step hm] at hx
    rcases List.mem_cons.1 hx with rfl | hx
    · exact ⟨m, rfl, hm⟩
    · rcases T.par hm with e | ⟨p, e, hp, _⟩
      · rw [e, chain_end] at hx; cases hx
      · rw [e] at hx
        exact ih p hp (by have := (T.up_par hm e).2; omega) x hx
theorem Tree.path_in {l : List Nd} (T : Tree l) {m : Nat} (hm : m < l.length) : ∀ x ∈ pathL l m, ∃ k : Nat, x = (k : Int) ∧ k < l.length := by
  intro x hx
  exact T.chain_in (upN l m + 1) m hm (by omega) x (by unfold pathL at hx; simpa using hx)
theorem Tree.path_pos {l : List Nd} (T : Tree l) {m : Nat} (hm : m < l.length) : 0 < (pathL l m).length := by
  unfold pathL
  rw [List.length_reverse, T.chain_step hm, List.length_cons]
  omega
theorem Tree.path_top {l : List Nd} (T : Tree l) {m : Nat} (hm : m < l.length) : (pathL l m)[0]? = some (topR l m) := by
  have := T.path_pos hm
  unfold topR pathL at *
  cases h : (chainR l m).reverse with
  | nil => rw [h] at this; simp at this
  | cons a r => rfl
section
variable {l : List Nd} (T : Tree l)
include T
theorem Tree.top_par {m p : Nat} (hm : m < l.length) (hp : p < l.length) (e : parD l m = (p : Int)) : topR l m = topR l p := by
  unfold topR
  rw [T.chain_step hm, e, T.chain_step hp]
  simp
theorem Tree.top_beside {m : Nat} (hm : m < l.length) {b k : Int} (h : besideR l m b = k) (hk : 0 ≤ k) : ∃ n : Nat, k = (n : Int) ∧ n < l.length ∧ topR l n = topR l m := by
  obtain ⟨p, i, j, n, e, hp, _, _, rfl, _, hn, hpn⟩ := T.beside_some hm h hk
  exact ⟨n, rfl, hn, (T.top_par hn hp hpn).trans (T.top_par hm hp e).symm⟩
theorem Tree.top_over (f : Nat) : ∀ m : Nat, m < l.length → upN l m < f → ∀ k : Int, overR l m = k → 0 ≤ k → ∃ n : Nat, k = (n : Int) ∧ n < l.length ∧ topR l n = topR l m := by
  induction f with
  | zero => intro m hm hf; omega
  | succ f ih =>
    intro m hm hf k hk h0
    rw [T.over_step hm] at hk
    by_cases h : 0 ≤ besideR l m 1
    · rw [if_pos h] at hk
      exact T.top_beside hm hk h0
    · rw [if_neg h] at hk
      rcases T.par hm with e | ⟨p, e, hp, _⟩
      · rw [e, over_end] at hk; omega
      · rw [e] at hk
        obtain ⟨n, e1, hn, ht⟩ := ih p hp (by have := (T.up_par hm e).2; omega) k hk h0
        exact ⟨n, e1, hn, ht.trans (T.top_par hm hp e).symm⟩
theorem Tree.top_desc (f : Nat) : ∀ m : Nat, m < l.length → upN l m + f = 41 → ∃ k : Nat, descR l m = (k : Int) ∧ k < l.length ∧ topR l k = topR l m := by
  induction f with
  | zero =>
    intro m hm hf
    have := (T.deep m hm).1
    omega
  | succ f ih =>
    intro m hm hf
    by_cases h : 0 ≤ kidR l m true
    · obtain ⟨n, hn, hnl, hp, _⟩ := T.kid_last hm h
      have hu := (T.up_par hnl hp).2
      obtain ⟨k, hk, hkl, ht⟩ := ih n hnl (by omega)
      exact ⟨k, by rw [T.desc_step hm, if_pos h, hn]; exact hk, hkl, ht.trans (T.top_par hnl hm hp)⟩
    · exact ⟨m, by rw [T.desc_step hm, if_neg h], hm, rfl⟩
theorem Tree.top_next {m : Nat} (hm : m < l.length) (h0 : 0 ≤ nextR l m) : ∃ n : Nat, nextR l m = (n : Int) ∧ n < l.length ∧ topR l n = topR l m := by
  unfold nextR at h0 ⊢
  by_cases hf : 0 ≤ kidR l m false
  · rw [if_pos hf]
    obtain ⟨n, hn, hnl, hp, _⟩ := T.kid_first hm hf
    exact ⟨n, hn, hnl, T.top_par hnl hm hp⟩
  · rw [if_neg hf] at h0 ⊢
    exact T.top_over (upN l m + 1) m hm (by omega) _ rfl h0
theorem Tree.top_last {m : Nat} (hm : m < l.length) (h0 : 0 ≤ lastR l m) : ∃ n : Nat, lastR l m = (n : Int) ∧ n < l.length ∧ topR l n = topR l m := by
  unfold lastR at h0 ⊢
  by_cases hb : besideR l m (-1) < 0
  · rw [if_pos hb] at h0 ⊢
    rcases T.par hm with e | ⟨p, e, hp, _⟩
    · omega
    · exact ⟨p, e, hp, (T.top_par hm hp e).symm⟩
  · rw [if_neg hb]
    obtain ⟨n, e, hn, ht⟩ := T.top_beside hm rfl (by omega : 0 ≤ besideR l m (-1))
    rw [e]
    obtain ⟨q, hq, hql, hqt⟩ := T.top_desc (41 - upN l n) n hn (by have := (T.deep n hn).1; omega)
    exact ⟨q, hq, hql, hqt.trans ht⟩
end
theorem ints_one {w : World} {x : Int} (hx : (Lit.int .i64 x).wf = true) : Sl (tInt .i64) (w.alloc (.cells #[.int .i64 x] 3)) (lt (w.heap.size + 1)) (some ⟨w.heap.size, 0, none⟩) 1 1 [x] :=
  Sl.fresh (T := tInt .i64) (B := w.heap.size) (cells := [.int .i64 x]) 3 ⟨[_], [], rfl, ⟨rfl, hx⟩, rfl⟩ (Nat.le_refl _) rfl (by decide)
theorem ints_two {w : World} {x y : Int} (hx : (Lit.int .i64 x).wf = true) (hy : (Lit.int .i64 y).wf = true) : Sl (tInt .i64) (w.alloc (.cells #[.int .i64 x, .int .i64 y] 3)) (lt (w.heap.size + 1)) (some ⟨w.heap.size, 0, none⟩) 2 2 [x, y] :=
  Sl.fresh (T := tInt .i64) (B := w.heap.size) (cells := [.int .i64 x, .int .i64 y]) 3 ⟨[_], [_], rfl, ⟨rfl, hx⟩, [_], [], rfl, ⟨rfl, hy⟩, rfl⟩ (Nat.le_refl _) rfl (by decide)

set_option maxRecDepth 100000 in
theorem few_any (A : Option Addr) (n c k : Nat) (q : Bool) (m : Int) (w : World) (hk : min (n : Int) m = (k : Int)) (hkc : k ≤ c) :
    Calls Tryd.prog 12 #[.agg #[.slice A n c, .bool q], .int .i64 m] w fun e w' => e = .returned (.agg #[.slice A k c, .bool q]) ∧ Below w.heap.size w w' := by
  go_enter Tryd.func12, Tryd.ntmps12
  go_wp2_with fail
  refine bodyPost_ret (v := .agg #[.slice A k c, .bool q]) (by simp [results, Tryd.results12, go_sem]) rfl ⟨rfl, ?_⟩
  exact ((Below.refl _ _).alloc (Nat.le_refl _) _).alloc (by simp) _
end Go.Proofs.YtmemadajjmmlpaaDoor
