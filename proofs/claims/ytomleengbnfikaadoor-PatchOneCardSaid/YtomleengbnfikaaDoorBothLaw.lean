/-
What all edits do in two parts; what All hands back, in one form. No program in sight but All's contract.
-/
import Derived.Test.YtomleengbnfikaaDoorEdDocs
namespace Go.Proofs.YtomleengbnfikaaDoor
open Go.RowKit Go.Cl

theorem edAll_err {es : List Edt} : ∀ {k : Nat} {l : List Nd}, (edAll k l es).2.2 ≠ 0 → (edAll k l es).1 = [] ∧ ∃ j : Nat, j < es.length ∧ (edAll k l es).2.1 = ((k + j : Nat) : Int) := by
  induction es with
  | nil => intro k l h; exact absurd rfl h
  | cons e es ih =>
    intro k l h
    rw [edAll] at h ⊢
    by_cases he : edErr l e ≠ 0
    · rw [if_pos he]
      exact ⟨rfl, 0, by simp, rfl⟩
    · rw [if_neg he] at h ⊢
      obtain ⟨h1, j, hj, h2⟩ := ih h
      exact ⟨h1, j + 1, by simp; omega, by rw [h2]; congr 1; omega⟩
theorem edAll_ok {es : List Edt} : ∀ {k : Nat} {l : List Nd}, (edAll k l es).2.2 = 0 → (edAll k l es).2.1 = 0 := by
  induction es with
  | nil => intro k l _; rfl
  | cons e es ih =>
    intro k l h
    rw [edAll] at h ⊢
    by_cases he : edErr l e ≠ 0
    · rw [if_pos he] at h; exact absurd h he
    · rw [if_neg he] at h ⊢
      exact ih h
theorem edAll_app {es fs : List Edt} : ∀ {k : Nat} {l : List Nd}, (edAll k l es).2.2 = 0 → edAll k l (es ++ fs) = edAll (k + es.length) (edAll k l es).1 fs := by
  induction es with
  | nil => intro k l _; rfl
  | cons e es ih =>
    intro k l h
    rw [List.cons_append, edAll, edAll] at *
    by_cases he : edErr l e ≠ 0
    · rw [if_pos he] at h; exact absurd h he
    · rw [if_neg he] at h ⊢
      rw [ih h, if_neg he, List.length_cons]
      congr 1
      omega
theorem edAll_bad2 {es fs : List Edt} : ∀ {k : Nat} {l : List Nd}, (edAll k l es).2.2 ≠ 0 → edAll k l (es ++ fs) = edAll k l es := by
  induction es with
  | nil => intro k l h; exact absurd rfl h
  | cons e es ih =>
    intro k l h
    rw [List.cons_append, edAll, edAll] at *
    by_cases he : edErr l e ≠ 0
    · rw [if_pos he, if_pos he]
    · rw [if_neg he] at h ⊢
      rw [if_neg he]
      exact ih h
theorem edAll_shift {es : List Edt} (j : Nat) : ∀ {k : Nat} {l : List Nd}, (edAll (j + k) l es).1 = (edAll k l es).1 ∧ (edAll (j + k) l es).2.2 = (edAll k l es).2.2 ∧ ((edAll k l es).2.2 ≠ 0 → (edAll (j + k) l es).2.1 = (j : Int) + (edAll k l es).2.1) := by
  induction es with
  | nil => intro k l; exact ⟨rfl, rfl, fun h => absurd rfl h⟩
  | cons e es ih =>
    intro k l
    rw [edAll, edAll]
    by_cases he : edErr l e ≠ 0
    · rw [if_pos he, if_pos he]
      exact ⟨rfl, rfl, fun _ => by simp⟩
    · rw [if_neg he, if_neg he]
      exact ih (k := k + 1) (l := edDo l e)
theorem edAll_good {es : List Edt} : ∀ {k : Nat} {l : List Nd}, Good l → (edAll k l es).2.2 = 0 → Good (edAll k l es).1 := by
  induction es with
  | nil => intro k l h _; exact h
  | cons e es ih =>
    intro k l h h0
    rw [edAll] at h0 ⊢
    by_cases he : edErr l e ≠ 0
    · rw [if_pos he] at h0; exact absurd h0 he
    · rw [if_neg he] at h0 ⊢
      exact ih (good_ed h (by simpa using he)) h0
theorem alErr_good {l : List Nd} {es : List Edt} (h : Good l) (hn : es.length ≤ 40) : alErr l es = 0 := by
  unfold alErr
  rw [if_neg (by rw [check_of h]; simp), if_neg (by omega)]
theorem alR_good {l : List Nd} {es : List Edt} (h : Good l) (hn : es.length ≤ 40) : alR l es = edAll 0 l es := by
  unfold alR
  rw [if_neg (by rw [alErr_good h hn]; simp)]
/-- With an error nothing becomes of it; which edit is wrong. -/
theorem alR_err {l : List Nd} {es : List Edt} (h : (alR l es).2.2 ≠ 0) : (alR l es).1 = [] ∧ ((alR l es).2.1 = 0 ∨ ∃ j : Nat, (alR l es).2.1 = (j : Int) ∧ j < es.length) := by
  unfold alR at *
  by_cases he : alErr l es ≠ 0
  · rw [if_pos he]
    exact ⟨rfl, Or.inl rfl⟩
  · rw [if_neg he] at h ⊢
    obtain ⟨h1, j, hj, h2⟩ := edAll_err h
    exact ⟨h1, Or.inr ⟨j, by rw [h2]; congr 1; omega, hj⟩⟩
theorem alR_ok {l : List Nd} {es : List Edt} (h : (alR l es).2.2 = 0) : Good l ∧ es.length ≤ 40 ∧ alR l es = edAll 0 l es ∧ (alR l es).2.1 = 0 := by
  unfold alR at *
  by_cases he : alErr l es ≠ 0
  · rw [if_pos he] at h; exact absurd h he
  · rw [if_neg he] at h
    have h0 : alErr l es = 0 := by simpa using he
    unfold alErr at h0
    by_cases hc : checkD l = 0
    · rw [if_neg (by simpa using hc)] at h0
      by_cases h40 : 40 < es.length
      · rw [if_pos h40] at h0; cases h0
      · refine ⟨good_of hc, by omega, by rw [if_neg he], ?_⟩
        rw [if_neg he]
        exact edAll_ok h
    · rw [if_pos hc] at h0; exact absurd h0 hc
theorem both_law {l : List Nd} {es fs : List Edt} (h : (alR l es).2.2 = 0) (hn : es.length + fs.length ≤ 40) :
    (alR l (es ++ fs)).1 = (alR (alR l es).1 fs).1 ∧ (alR l (es ++ fs)).2.2 = (alR (alR l es).1 fs).2.2 ∧ ((alR (alR l es).1 fs).2.2 = 0 → (alR (alR l es).1 fs).2.1 = 0 ∧ (alR l (es ++ fs)).2.1 = 0) ∧
    ((alR (alR l es).1 fs).2.2 ≠ 0 → (alR l (es ++ fs)).2.1 = (es.length : Int) + (alR (alR l es).1 fs).2.1) := by
  obtain ⟨hg, _, he, _⟩ := alR_ok h
  rw [he] at h ⊢
  have hg2 := edAll_good hg h
  rw [alR_good hg (by rw [List.length_append]; omega), alR_good hg2 (by omega), edAll_app h]
  obtain ⟨h1, h2, h3⟩ := edAll_shift (es := fs) (0 + es.length) (k := 0) (l := (edAll 0 l es).1)
  rw [Nat.add_zero] at h1 h2 h3
  refine ⟨h1, h2, fun h4 => ⟨edAll_ok h4, edAll_ok (h2.trans h4)⟩, fun h4 => ?_⟩
  rw [h3 h4, Nat.zero_add]
/-- The mark of what All hands back. -/
def alQ (R : List Nd × Int × Int) (q : Bool) : Bool := if R.2.2 = 0 then q else false
/-- What All leaves behind, in one form. -/
def AlU (w : World) (R : List Nd × Int × Int) (q : Bool) (e' : Ending) (w' : World) : Prop :=
  Below w.heap.size w w' ∧ ∃ A' c', e' = .returned (.tuple #[.agg #[.slice A' R.1.length c', .bool (alQ R q)], .int .i64 R.2.1, .int .i64 R.2.2]) ∧ Sl tNd w' (rg w.heap.size w'.heap.size) A' R.1.length c' R.1
theorem al_uni {w w' : World} {l : List Nd} {q : Bool} {es : List Edt} {e' : Ending} (h : AlPost w l q es e' w') : AlU w (alR l es) q e' w' := by
  obtain ⟨hb, h⟩ := h
  rcases h with ⟨h0, h⟩ | ⟨h0, A', c', h, hs⟩
  · have h1 := (alR_err h0).1
    refine ⟨hb, none, 0, ?_, by rw [h1]; exact Sl.nil⟩
    rw [h, h1]
    unfold alQ
    rw [if_neg h0]
    rfl
  · refine ⟨hb, A', c', ?_, hs⟩
    rw [h]
    unfold alQ
    rw [if_pos h0, (alR_ok h0).2.2.2, h0]
theorem elemEdt : ElemOf Tryd.prog 40 30 tEdt.size 160 := mkElem Tryd.underlying40 (by kernel_rfl) (z := .agg (edtCells ⟨0, 0, 0, 0, ⟨#[]⟩, ⟨#[]⟩, ⟨0, ⟨#[]⟩, [], ⟨#[]⟩, 0, []⟩⟩ none 0 0 none 0 0)) rfl (by decide)
/-- append(own, source...), one operation. -/
theorem wp_apo {P : Program} (w : World) {o : Oper} {a : Act} {K : Act → World → Prop} {Q : Exit → Act → World → Prop} (s x : Operand) (t : TypeId)
    (ho : o.op = .call { callee := .builtin .append, args := #[s, x], argTypes := #[t, t] })
    {α : Type} {T : Ty α} {e : TypeId} {bytes base B : Nat} (hE : ElemOf P t e T.size bytes) {v : Value} {n : Nat} {xs : List α} (hv : a.eval s = v) (hown : Own T w base e (lt B) v n xs) (hB : B ≤ base)
    {A : Option Addr} {m c : Nat} {ys : List α} (hx : a.eval x = .slice A m c) (hs : Sl T w (lt B) A m c ys) {nm : Nat} {zs : List α} (hnm : n + m = nm) (hzs : xs ++ ys = zs) (h63 : n + m ≤ 140737488355328) (hbytes : (n + m) * bytes ≤ 140737488355328) (hbase : base ≤ w.heap.size)
    (h : ∀ v' w', Own T w' base e (lt B) v' nm zs → w.grownBy w' v.ownBlock → Below base w w' → K (a.put o.dst v') w') : o.wp P a w K Q := by
  subst hnm hzs
  obtain ⟨cs, h1, h2⟩ := hown
  refine wp_apd w s x t ho hE hv h1 hx hs h63 hbytes hbase fun v' w' news hn ho' hg hb => ?_
  have hk : ∀ p : Addr, lt B p.block → w'.cell? p = w.cell? p := fun p hp => World.cell?_of_block (hg.block p.block (Nat.lt_of_lt_of_le hp (Nat.le_trans hB hbase)) (fun e => by
    have := (h1.lt p.block e.symm).1
    have h2 : p.block < B := hp
    omega))
  exact h v' w' ⟨_, ho', (h2.keep hk).append (hn.keep hk)⟩ hg ((Below.refl base w).grown hg hbase fun k hk => (h1.lt k hk).1)
end Go.Proofs.YtomleengbnfikaaDoor
