/-
A document of the call's own, each of its rows in a block of its own: what keeps it, what a store makes of it.
-/
import Derived.Test.YtbddnohbkafagaaGreatDoorEdLaws
namespace Go.Proofs.YtbddnohbkafagaaGreatDoor
open Go.RowKit Go.Cl

/-- Cells as they stand. -/
def tRaw (k b : Nat) (hb : 1 ≤ b := by decide) : Ty (List Value) where
  size := k
  bytes := b
  pos := hb
  rep _ _ x cs := cs = x ∧ x.length = k ∧ ∀ u ∈ x, u.oneCell' = true
  len := by rintro w D x cs ⟨rfl, h, _⟩; exact h
  one := by rintro w D x cs ⟨rfl, _, h⟩; exact h
  keep := by rintro w w' D x cs h _; exact h
  more := by rintro w D D' x cs h _; exact h
abbrev tN6 : Ty (List Value) := tRaw 6 96
/-- The cells of a node, over its two slices. -/
def ndRow (x : Nd) (p : Value × Value) : List Value := [.int .i64 x.kind, .string x.name, p.1, .string x.text, .int .i64 x.parent, p.2]
/-- What is known of a node. -/
structure EdOk (x : Nd) : Prop where
  kind : (Lit.int .i64 x.kind).wf = true
  name : x.name.size ≤ 1152921504606846976
  text : x.text.size ≤ 1152921504606846976
  parent : (Lit.int .i64 x.parent).wf = true
  attrs : x.attrs.length ≤ 2000000000
  kids : x.kids.length ≤ 1000
/-- A node's two slices, in blocks of their own. -/
structure Parts (w : World) (base : Nat) (x : Nd) (p : Value × Value) : Prop where
  attrs : OwnF tDA w base 55 p.1 x.attrs.length x.attrs
  kids : OwnF (tInt .i64) w base 3 p.2 x.kids.length x.kids
  ok : EdOk x
theorem own_block_at {α : Type} {T : Ty α} {w : World} {base : Nat} {e : TypeId} {D : Nat → Prop} {v : Value} {n g : Nat} {xs : List α} (h : Own T w base e D v n xs) (hg : v.ownBlock = some g) : ∃ cur, w.heap[g]? = some (.cells cur e (0, 0)) := by
  obtain ⟨cells, h, _⟩ := h
  rcases h.2 with ⟨rfl, _⟩ | ⟨g', cap, cur, rfl, _, hc, _⟩
  · cases hg
  · have e' : g' = g := by simpa [Value.ownBlock] using hg
    subst e'
    exact ⟨cur, hc⟩
/-- Rows of unlike types lie in unlike blocks. -/
theorem own_ne {α β : Type} {S : Ty α} {T : Ty β} {w : World} {b1 b2 : Nat} {e1 e2 : TypeId} (he : e1 ≠ e2) {D1 D2 : Nat → Prop} {v1 v2 : Value} {n1 n2 : Nat} {xs : List α} {ys : List β} (h1 : Own S w b1 e1 D1 v1 n1 xs) (h2 : Own T w b2 e2 D2 v2 n2 ys) : v1.ownBlock = none ∨ v1.ownBlock ≠ v2.ownBlock := by
  cases hv : v1.ownBlock with
  | none => exact Or.inl rfl
  | some g =>
    right
    intro e
    obtain ⟨c1, k1⟩ := own_block_at h1 hv
    obtain ⟨c2, k2⟩ := own_block_at h2 e.symm
    rw [k1] at k2
    injection k2 with k2
    injection k2 with _ k3
    exact he k3
/-- A block of another type is no row's own. -/
theorem own_ne_block {α : Type} {T : Ty α} {w : World} {base : Nat} {e e' : TypeId} (he : e ≠ e') {D : Nat → Prop} {v : Value} {n k : Nat} {xs : List α} (h : Own T w base e D v n xs) {cs : Array Value} {fr : Nat × Nat} (hk : w.heap[k]? = some (.cells cs e' fr)) : v.ownBlock ≠ some k := by
  intro e2
  obtain ⟨c1, k1⟩ := own_block_at h e2
  rw [k1] at hk
  injection hk with hk
  injection hk with _ k3
  exact he k3
theorem ownF_kept {α : Type} {T : Ty α} {w w' : World} {base : Nat} {e : TypeId} {v : Value} {n : Nat} {xs : List α} {row : Option Nat} (h : OwnF T w base e v n xs) (hg : w.grownBy w' row) (hne : v.ownBlock = none ∨ v.ownBlock ≠ row) : OwnF T w' base e v n xs :=
  Own.kept h hg hne fun _ h => h.elim
theorem grown_set (w : World) (g i : Nat) (u : Value) : w.grownBy (w.setCell ⟨g, i, none⟩ u) (some g) :=
  ⟨rfl, rfl, rfl, by simp, fun k _ hk => Below.heap_setCell _ _ _ _ (fun e => hk (by rw [e]))⟩

theorem ndRow_ok {x : Nd} {p : Value × Value} (h1 : ∃ A n c, p.1 = .slice A n c) (h2 : ∃ A n c, p.2 = .slice A n c) : (ndRow x p).length = 6 ∧ ∀ u ∈ ndRow x p, u.oneCell' = true := by
  obtain ⟨A, n, c, e⟩ := h1
  obtain ⟨A2, n2, c2, e2⟩ := h2
  refine ⟨rfl, fun u hu => ?_⟩
  unfold ndRow at hu
  rw [e, e2] at hu
  simp at hu
  rcases hu with rfl | rfl | rfl | rfl | rfl | rfl <;> rfl

section
variable {w w' : World} {base : Nat} {A : Value} {l : List Nd} {ps : List (Value × Value)}
theorem Parts.below {x : Nd} {p : Value × Value} (h : Parts w base x p) (hb : Below w.heap.size w w') : Parts w' base x p :=
  ⟨h.attrs.below hb (Nat.le_refl _), h.kids.below hb (Nat.le_refl _), h.ok⟩
theorem zip_at {i : Nat} {x : Nd} {p : Value × Value} (hx : l[i]? = some x) (hp : ps[i]? = some p) : (List.zipWith ndRow l ps)[i]? = some (ndRow x p) := by
  rw [List.getElem?_zipWith, hx, hp]
theorem zip_set {i : Nat} {y : Nd} {q : Value × Value} : (List.zipWith ndRow l ps).set i (ndRow y q) = List.zipWith ndRow (l.set i y) (ps.set i q) := by
  induction l generalizing ps i with
  | nil => simp
  | cons x l ih =>
    cases ps with
    | nil => cases i <;> simp
    | cons p ps =>
      cases i with
      | zero => rfl
      | succ i =>
        rw [List.zipWith_cons_cons, List.set_cons_succ, List.set_cons_succ, List.set_cons_succ, List.zipWith_cons_cons, ih]
/-- Read as a slice of nodes. -/
theorem ed_rows {D : Nat → Prop} : ∀ (l : List Nd) (ps : List (Value × Value)) (cells : List Value), ps.length = l.length → (∀ (i : Nat) x p, l[i]? = some x → ps[i]? = some p → Parts w base x p) → Row tN6 w D (List.zipWith ndRow l ps) cells → Row tNd w (lt w.heap.size) l cells := by
  intro l
  induction l with
  | nil =>
    intro ps cells _ _ h
    exact h
  | cons x l ih =>
    intro ps cells hl hp h
    cases ps with
    | nil => simp at hl
    | cons p ps =>
      obtain ⟨c1, c2, rfl, ⟨rfl, _⟩, h2⟩ := h
      have hP := hp 0 x p rfl rfl
      obtain ⟨Aa, ca, ea, sa⟩ := OwnF.sl hP.attrs (by decide) (by have := hP.ok.attrs; show x.attrs.length * 32 ≤ _; omega)
      obtain ⟨Ak, ck, ek, sk⟩ := OwnF.sl hP.kids (by decide) (by have := hP.ok.kids; show x.kids.length * 8 ≤ _; omega)
      refine ⟨ndRow x p, c2, rfl, ?_, ih ps c2 (by simpa using hl) (fun i y q hy hq => hp (i + 1) y q (by simpa using hy) (by simpa using hq)) h2⟩
      unfold ndRow
      rw [ea, ek]
      exact nd_rep ⟨sa, sk, hP.ok.kind, hP.ok.name, hP.ok.text, hP.ok.parent⟩
end
end Go.Proofs.YtbddnohbkafagaaGreatDoor

/-
The library's slices at the types of documents: Clone, Delete.
-/
namespace Go.Proofs.YtbddnohbkafagaaGreatDoor
open Go.RowKit Go.Cl
attribute [local go_sem ↓] Go.wp_at_zero Go.wp_at_succ

/-- append whose run is known, at a step of a region that draws its order. -/
theorem step_append_runI {P : Program} {ops : Array Oper} {o : Oper} {a : Act} {w : World} {K : Act → World → Prop} {Q : Exit → Act → World → Prop} {E : Prop} (hgd : o.guard = none) (s x : Operand) (t : TypeId)
    (ho : o.op = .call { callee := .builtin .append, args := #[s, x], argTypes := #[t, t] }) (v u : Value) (hv : a.eval s = v) (hx : a.eval x = u) {v' : Value} {w' : World} (hr : (Builtin.append_ #[t, t] o.type #[v, u]).run P w = .ok v' w') (h : K (a.put o.dst v') w') :
    if Region.wanted o (yielded ops a.tmps) = true then Oper.wp P o a w K Q else E := by
  rw [if_pos (by simp [Region.wanted, hgd])]
  unfold Oper.wp execOp
  simp only [ho, resolve, invoke, builtin, Sem.run_bind, Sem.run_pure, Result.andThen_ok, List.map_toArray, List.map_cons, List.map_nil, hv, hx, hr]
  exact h
end Go.Proofs.YtbddnohbkafagaaGreatDoor

/-
Rows of ints that the call owns: one is put in, one is taken out.
-/
namespace Go.Proofs.YtbddnohbkafagaaGreatDoor
open Go.RowKit Go.Cl
attribute [local go_sem ↓] Go.wp_at_zero Go.wp_at_succ

theorem ints_row {w : World} {D : Nat → Prop} : ∀ ys : List Int, (∀ x ∈ ys, (Lit.int .i64 x).wf = true) → Row (tInt .i64) w D ys (ys.map (Value.int .i64)) := by
  intro ys
  induction ys with
  | nil => intro _; exact Row.nil
  | cons y ys ih => intro hy; exact ⟨[.int .i64 y], _, rfl, ⟨rfl, hy y (by simp)⟩, ih (fun x hx => hy x (by simp [hx]))⟩
theorem row_ints {w : World} {D : Nat → Prop} : ∀ (ys : List Int) (cells : List Value), Row (tInt .i64) w D ys cells → cells = ys.map (Value.int .i64) ∧ ∀ x ∈ ys, (Lit.int .i64 x).wf = true := by
  intro ys
  induction ys with
  | nil => intro cells h; exact ⟨h, fun x hx => by cases hx⟩
  | cons y ys ih =>
    intro cells h
    obtain ⟨c1, c2, rfl, ⟨rfl, hw⟩, h2⟩ := h
    obtain ⟨e, h3⟩ := ih c2 h2
    refine ⟨by rw [e]; rfl, fun x hx => ?_⟩
    rcases List.mem_cons.1 hx with rfl | hx
    · exact hw
    · exact h3 x hx
/-- What an owned row of ints is. -/
theorem own_ints {w : World} {base g n c : Nat} {xs : List Int} (h : OwnF (tInt .i64) w base 3 (.slice (some ⟨g, 0, none⟩) n c) n xs) :
    ∃ cur, w.heap[g]? = some (.cells cur 3 (0, 0)) ∧ base ≤ g ∧ n = xs.length ∧ n ≤ c ∧ c ≤ maxLen ∧ cur.size = c ∧ cur.toList.take n = xs.map (Value.int .i64) ∧ ∀ x ∈ xs, (Lit.int .i64 x).wf = true := by
  have hln := Own.len h (by decide)
  obtain ⟨cells, h1, h2⟩ := h
  obtain ⟨e, hwf⟩ := row_ints _ _ h2
  rcases h1.2 with ⟨hv, h0⟩ | ⟨g', cap, cur, hv, hb, hh, hnc, hcm, hsz, htk⟩
  · cases hv
  · simp only [Value.slice.injEq, Option.some.injEq, Addr.mk.injEq, and_true, true_and] at hv
    obtain ⟨rfl, rfl⟩ := hv
    have hs1 : (tInt .i64).size = 1 := rfl
    rw [hs1, Nat.mul_one] at hsz htk
    exact ⟨cur, hh, hb, hln, hnc, hcm, hsz, by rw [htk, e], hwf⟩
theorem own_of {W : World} {base g m c : Nat} {ys : List Int} {cur : Array Value} (hh : W.heap[g]? = some (.cells cur 3 (0, 0))) (hb : base ≤ g) (hm : m = ys.length) (hc : m ≤ c) (hcm : c ≤ maxLen) (hsz : cur.size = c) (htk : cur.toList.take m = ys.map (Value.int .i64)) (hwf : ∀ x ∈ ys, (Lit.int .i64 x).wf = true) :
    OwnF (tInt .i64) W base 3 (.slice (some ⟨g, 0, none⟩) m c) m ys := by
  have hs1 : (tInt .i64).size = 1 := rfl
  refine ⟨ys.map (Value.int .i64), ⟨by rw [List.length_map, hs1, Nat.mul_one, hm], .inr ⟨g, c, cur, rfl, hb, hh, hc, hcm, by rw [hs1, Nat.mul_one]; exact hsz, by rw [hs1, Nat.mul_one]; exact htk⟩⟩, ints_row ys hwf⟩
theorem ints_at {w : World} {g n : Nat} {cur : Array Value} {xs : List Int} (hh : w.heap[g]? = some (.cells cur 3 (0, 0))) (htk : cur.toList.take n = xs.map (Value.int .i64)) : ∀ (j : Nat) v, (xs.map (Value.int .i64))[j]? = some v → w.cell? ⟨g, 0 + j, none⟩ = some v := fun j v hv => by
  rw [Nat.zero_add]
  rw [← htk, List.getElem?_take] at hv
  split at hv
  · exact cell_blk hh (by simpa using hv)
  · cases hv

theorem grown_dN (w : World) (q : Nat) (row : Option Nat) : w.grownBy (w.drewN q) row := ⟨rfl, rfl, rfl, Nat.le_refl _, fun _ _ _ => rfl⟩
theorem grown_drew (w : World) (row : Option Nat) : w.grownBy w.drew row := ⟨rfl, rfl, rfl, Nat.le_refl _, fun _ _ _ => rfl⟩
theorem grown_al (w : World) (o : Obj) (row : Option Nat) : w.grownBy (w.alloc o) row := ⟨rfl, rfl, rfl, by simp, fun k hk _ => Lib.alloc_old w o k hk⟩
/-- Stores into a block that is new leave what was there. -/
theorem grown_new {a b : World} {g : Nat} (hg : a.heap.size ≤ g) (row : Option Nat) (h : a.grownBy b row) (vs : List Value) (o : Nat) : a.grownBy (b.setCells g o vs) row := by
  have k := grown_setCells g vs o b
  exact ⟨k.os.trans h.os, k.tape.trans h.tape, k.output.trans h.output, Nat.le_trans h.size k.size, fun i hi hn => (k.block i (Nat.lt_of_lt_of_le hi h.size) (fun e => by simp at e; omega)).trans (h.block i hi hn)⟩
theorem grown_row {a b : World} {g : Nat} (h : a.grownBy b (some g)) (vs : List Value) (o : Nat) : a.grownBy (b.setCells g o vs) (some g) := grownBy.trans' h (grown_setCells g vs o b)

end Go.Proofs.YtbddnohbkafagaaGreatDoor
