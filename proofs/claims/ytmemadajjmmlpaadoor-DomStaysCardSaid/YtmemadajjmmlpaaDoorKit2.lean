/-
Slices that the call made itself: what they own; append as a law over what the source reads as. No program in sight.
-/
import Derived.Test.YtmemadajjmmlpaaDoorKit
import Derived.Maps.AppendAt
import Derived.Laws.OwnMore
import Derived.OwnWalk
import Derived.RegionTactic
namespace Go.Cl
open Go.RowKit

/-- A fresh block as a slice. -/
theorem Sl.fresh {α : Type} {T : Ty α} {w : World} {B n : Nat} {xs : List α} {cells : List Value} (e : TypeId) (hr : Row T w (lt B) xs cells) (hB : B ≤ w.heap.size) (hn : n = xs.length) (hb : n * T.bytes ≤ 140737488355328) :
    Sl T (w.alloc (.cells cells.toArray e)) (lt (w.heap.size + 1)) (some ⟨w.heap.size, 0, none⟩) n n xs :=
  ⟨hn, Nat.le_refl _, hb, by have := Nat.mul_le_mul_left n T.pos; unfold maxLen; omega, by simp, fun h0 => ⟨w.heap.size, 0, cells, rfl, Nat.lt_succ_self _,
    (hr.keep fun p hp => World.cell?_alloc_lt w _ p (Nat.lt_of_lt_of_le hp hB)).more fun b hb => by have h1 : b < B := hb; show b < w.heap.size + 1; omega,
    fun j u hu => by
      rw [cell_of_row _ w.heap.size _ cells.toArray e (0, 0) (heap_alloc_new w _)]
      simpa using hu⟩⟩

/-- A row that the call owns, and what it reads as. -/
def Own {α : Type} (T : Ty α) (w : World) (base : Nat) (e : TypeId) (D : Nat → Prop) (v : Value) (n : Nat) (xs : List α) : Prop :=
  ∃ cells, w.ownsRow base e T.size v n cells ∧ Row T w D xs cells

section
variable {α : Type} {T : Ty α} {w w' : World} {base : Nat} {e : TypeId} {D D' : Nat → Prop} {v : Value} {n : Nat} {xs : List α}
theorem Own.nil (w : World) (base : Nat) (e : TypeId) (D : Nat → Prop) : Own T w base e D (.slice none 0 0) 0 ([] : List α) := ⟨[], World.ownsRow_nil w base e T.size, Row.nil⟩
theorem Own.more (h : Own T w base e D v n xs) (hk : ∀ b, D b → D' b) : Own T w base e D' v n xs := by
  obtain ⟨cells, h1, h2⟩ := h
  exact ⟨cells, h1, h2.more hk⟩
theorem Own.form (h : Own T w base e D v n xs) : ∃ A c, v = .slice A n c := by
  obtain ⟨cells, h1, h2⟩ := h
  rcases h1.2 with ⟨rfl, rfl⟩ | ⟨g, cap, cur, rfl, _⟩
  · exact ⟨none, 0, rfl⟩
  · exact ⟨_, _, rfl⟩
theorem Own.len (h : Own T w base e D v n xs) (hpos : 0 < T.size) : n = xs.length := by
  obtain ⟨cells, h1, h2⟩ := h
  have e1 := h1.1
  rw [h2.len] at e1
  exact (Nat.eq_of_mul_eq_mul_right hpos e1).symm
theorem Own.lt (h : Own T w base e D v n xs) : ∀ k, v.ownBlock = some k → base ≤ k ∧ k < w.heap.size := by
  obtain ⟨cells, h1, _⟩ := h
  exact h1.lt
/-- Read as a slice: what it leads to lies in D or in the row itself. -/
theorem Own.sl {A : Option Addr} {c : Nat} (h : Own T w base e D (.slice A n c) n xs) (hpos : 0 < T.size) (hn : n * T.bytes ≤ 140737488355328) :
    Sl T w (fun b => D b ∨ (base ≤ b ∧ b < w.heap.size)) A n c xs := by
  have hl := h.len hpos
  obtain ⟨cells, h1, h2⟩ := h
  rcases h1.2 with ⟨hv, h0⟩ | ⟨g, cap, cur, hv, hb, hh, hnc, hcm, hsz, htk⟩
  · injection hv with hA hn0 hc0
    subst hA hc0
    subst h0
    exact ⟨hl, Nat.le_refl _, by simp, by simp, fun _ => rfl, fun h => absurd h (by omega)⟩
  · injection hv with hA hn0 hc0
    subst hA hc0
    have hlt := (Array.getElem?_eq_some_iff.1 hh).1
    refine ⟨hl, hnc, hn, hcm, by simp, fun _ => ⟨g, 0, cells, rfl, .inr ⟨hb, hlt⟩, h2.more fun b hb => .inl hb, fun j u hu => ?_⟩⟩
    rw [cell_of_row w g _ cur e (0, 0) hh, ← htk] at *
    have hj := (List.getElem?_eq_some_iff.1 hu).1
    rw [List.length_take] at hj
    rw [List.getElem?_take_of_lt (by omega)] at hu
    simpa using hu
/-- Kept where the row's own block and the blocks of D are as they were. -/
theorem Own.kept {row : Option Nat} (h : Own T w base e D v n xs) (hg : w.grownBy w' row) (hne : v.ownBlock = none ∨ v.ownBlock ≠ row) (hD : ∀ b, D b → b < w.heap.size ∧ some b ≠ row) : Own T w' base e D v n xs := by
  obtain ⟨cells, h1, h2⟩ := h
  exact ⟨cells, h1.kept hg hne, h2.keep fun p hp => World.cell?_of_block (hg.block p.block (hD _ hp).1 (hD _ hp).2)⟩
theorem Own.below {B : Nat} (h : Own T w base e D v n xs) (hb : Below B w w') (hv : ∀ k, v.ownBlock = some k → k < B) (hD : ∀ b, D b → b < B) : Own T w' base e D v n xs := by
  obtain ⟨cells, h1, h2⟩ := h
  refine ⟨cells, ⟨h1.1, ?_⟩, h2.keep fun p hp => hb.cell (hD _ hp)⟩
  rcases h1.2 with h3 | ⟨g, cap, cur, rfl, hb', hh, rest⟩
  · exact .inl h3
  · exact .inr ⟨g, cap, cur, rfl, hb', by rw [hb.block g (hv g rfl)]; exact hh, rest⟩
theorem Own.alloc (h : Own T w base e D v n xs) (o : Obj) (hD : ∀ b, D b → b < w.heap.size) : Own T (w.alloc o) base e D v n xs :=
  h.below ((Below.refl w.heap.size w).alloc (Nat.le_refl _) o) (fun k hk => (h.lt k hk).2) hD
theorem Own.drew (h : Own T w base e D v n xs) : Own T w.drew base e D v n xs := by
  obtain ⟨cells, h1, h2⟩ := h
  exact ⟨cells, h1.drew, h2.keep fun _ _ => rfl⟩
end

theorem set_app_left {α : Type} (l r : List α) (i : Nat) (u : α) (h : i < l.length) : (l ++ r).set i u = l.set i u ++ r := by
  rw [List.set_append, if_pos h]
theorem set_app_right {α : Type} (l r : List α) (i : Nat) (u : α) : (l ++ r).set (l.length + i) u = l ++ r.set i u := by
  rw [List.set_append, if_neg (by omega), Nat.add_sub_cancel_left]
/-- One cell of a row is set: the element that it belongs to reads as another. -/
theorem Row.set_ {α : Type} {T : Ty α} {w : World} {D : Nat → Prop} {xs : List α} {cs : List Value} (h : Row T w D xs cs) {i j : Nat} {x y : α} {u : Value} (hx : xs[i]? = some x) (hj : j < T.size)
    (hr : ∀ c, T.rep w D x c → (∀ k v, c[k]? = some v → cs[i * T.size + k]? = some v) → T.rep w D y (c.set j u)) : Row T w D (xs.set i y) (cs.set (i * T.size + j) u) := by
  induction xs generalizing cs i with
  | nil => simp at hx
  | cons z xs ih =>
    obtain ⟨c1, c2, rfl, h1, h2⟩ := h
    have hl := T.len h1
    match i with
    | 0 =>
      have hz : z = x := by simpa using hx
      subst hz
      rw [Nat.zero_mul, Nat.zero_add, set_app_left _ _ _ _ (by omega)]
      exact ⟨_, _, rfl, hr c1 h1 (fun k v hk => by
        have := (List.getElem?_eq_some_iff.1 hk).1
        rw [Nat.zero_mul, Nat.zero_add, List.getElem?_append_left (by omega)]
        exact hk), h2⟩
    | i + 1 =>
      have hx' : xs[i]? = some x := by simpa using hx
      rw [show (i + 1) * T.size + j = c1.length + (i * T.size + j) from by rw [Nat.succ_mul, hl]; omega, set_app_right]
      refine ⟨c1, _, rfl, h1, ih h2 hx' fun c hc hk => hr c hc fun k v hv => ?_⟩
      rw [show (i + 1) * T.size + k = c1.length + (i * T.size + k) from by rw [Nat.succ_mul, hl]; omega, List.getElem?_append_right (by omega), Nat.add_sub_cancel_left]
      exact hk k v hv
/-- A store into a row that the call owns. -/
theorem Own.stored {α : Type} {T : Ty α} {w : World} {base g n c : Nat} {e : TypeId} {D : Nat → Prop} {xs : List α} (h : Own T w base e D (.slice (some ⟨g, 0, none⟩) n c) n xs) (hD : ∀ b, D b → b ≠ g)
    {i j : Nat} {x y : α} {u : Value} (hx : xs[i]? = some x) (hj : j < T.size) (hr : ∀ cs, T.rep w D x cs → T.rep w D y (cs.set j u)) :
    Own T (w.setCell ⟨g, i * T.size + j, none⟩ u) base e D (.slice (some ⟨g, 0, none⟩) n c) n (xs.set i y) := by
  obtain ⟨cells, h1, h2⟩ := h
  exact ⟨_, (h1.stored (i * T.size + j) u).1, (h2.set_ hx hj fun c hc _ => hr c hc).keep fun p hp => World.cell?_setCell_other w _ p u (fun e => hD _ hp (by rw [← e]))⟩
/-- Where a row lies that is not empty. -/
theorem Own.block {α : Type} {T : Ty α} {w : World} {base n c : Nat} {e : TypeId} {D : Nat → Prop} {xs : List α} {A : Option Addr} (h : Own T w base e D (.slice A n c) n xs) (hn : 0 < n) :
    ∃ g cells, A = some ⟨g, 0, none⟩ ∧ base ≤ g ∧ g < w.heap.size ∧ Row T w D xs cells ∧ (∀ k u, cells[k]? = some u → w.cell? ⟨g, k, none⟩ = some u) ∧ ∀ k, w.frozen? ⟨g, k, none⟩ = false := by
  obtain ⟨cells, h1, h2⟩ := h
  rcases h1.2 with ⟨hv, h0⟩ | ⟨g, cap, cur, hv, hb, hh, hnc, hcm, hsz, htk⟩
  · omega
  · injection hv with hA hn0 hc0
    subst hA hc0
    refine ⟨g, cells, rfl, hb, (Array.getElem?_eq_some_iff.1 hh).1, h2, fun k u hu => ?_, fun k => free_blk hh⟩
    rw [← htk, List.getElem?_take] at hu
    split at hu
    · exact cell_blk hh (by simpa using hu)
    · cases hu

/-- What the program's tables say of a slice type and its element. -/
structure ElemOf (P : Program) (t e : TypeId) (size bytes : Nat) : Prop where
  under : P.underlying t = some (.slice e)
  info : ∃ i z, P.info? e = some i ∧ i.zero = some z ∧ i.size = size ∧ i.bytes = bytes ∧ z.cells.size = size
  pos : 0 < size

theorem mkElem {P : Program} {t e : TypeId} {size bytes : Nat} {z : Value} (h1 : P.underlying t = some (.slice e)) (h2 : (P.info? e).map (fun i => (i.zero, i.size, i.bytes)) = some (some z, size, bytes)) (h3 : z.cells.size = size) (h4 : 0 < size) : ElemOf P t e size bytes :=
  ⟨h1, by
    cases hi : P.info? e with
    | none => rw [hi] at h2; cases h2
    | some i =>
      rw [hi] at h2
      simp only [Option.map_some, Option.some.injEq, Prod.mk.injEq] at h2
      exact ⟨i, z, rfl, h2.1, h2.2.1, h2.2.2, h3⟩, h4⟩

section
variable {P : Program} (w : World)

theorem run_append_of_nil (base : Nat) (t ty e : TypeId) (i : TypeInfo) (size : Nat) (ht : P.underlying t = some (.slice e)) (hi : P.info? e = some i)
    (v : Value) (n : Nat) (xs : List Value) (hown : w.ownsRow base e size v n xs) (c : Nat) : (Builtin.append_ #[t, t] ty #[v, .slice none 0 c]).run P w = .ok v w := by
  rcases hown.2 with ⟨rfl, rfl⟩ | ⟨g, cap, cur, rfl, _, _, hnc, _⟩
  · simp [Builtin.append_, run_underlying ht, sizeOf, typeInfo, hi, Builtin.lenOf, Builtin.firstCells]
  · simp [Builtin.append_, run_underlying ht, sizeOf, typeInfo, hi, Builtin.lenOf, Builtin.firstCells, hnc, storeCells]

/-- append(own, source...), whatever the source: nil, empty or not. -/
theorem run_apd {α : Type} {T : Ty α} {t ty e : TypeId} {bytes base : Nat} (hE : ElemOf P t e T.size bytes) {v : Value} {n : Nat} {cs : List Value} (hown : w.ownsRow base e T.size v n cs)
    {D : Nat → Prop} {A : Option Addr} {m c : Nat} {ys : List α} (hs : Sl T w D A m c ys) (h63 : n + m ≤ 140737488355328) (hbytes : (n + m) * bytes ≤ 140737488355328) (hbase : base ≤ w.heap.size) :
    ∃ v' w' news, (Builtin.append_ #[t, t] ty #[v, .slice A m c]).run P w = .ok v' w' ∧ Row T w D ys news ∧ w'.ownsRow base e T.size v' (n + m) (cs ++ news) ∧ w.grownBy w' v.ownBlock ∧
      (v'.ownBlock = v.ownBlock ∨ v'.ownBlock = some w.heap.size) := by
  obtain ⟨i, z, hi, hz, hsize, hby, hzs⟩ := hE.info
  rcases Nat.eq_zero_or_pos m with h0 | h0
  · subst h0
    obtain rfl : ys = [] := List.eq_nil_of_length_eq_zero hs.hn.symm
    rcases A with _ | ad
    · obtain rfl : c = 0 := hs.nil_ rfl
      exact ⟨v, w, [], run_append_of_nil w base t ty e i T.size hE.under hi v n cs hown 0, Row.nil, by simpa using hown, World.grownBy.refl w _, .inl rfl⟩
    · obtain ⟨v', w', hrun, h2, h3, _, h5⟩ := run_append_own_at (P := P) w base t ty e i z T.size bytes hE.under hi hz hsize hby hzs hE.pos v n cs hown ad 0 c [] (by simp) (by simp) (by simp) (by unfold maxLen; omega) hbytes hbase
      exact ⟨v', w', [], hrun, Row.nil, h2, h3, h5⟩
  · obtain ⟨b, o, cells, rfl, hb, hr, hcell⟩ := hs.at_ h0
    obtain ⟨v', w', hrun, h2, h3, _, h5⟩ := run_append_own_at (P := P) w base t ty e i z T.size bytes hE.under hi hz hsize hby hzs hE.pos v n cs hown ⟨b, o, none⟩ m c cells (by rw [hr.len, hs.hn])
      (fun j u hu => by
        rw [← hcell j u hu]
        congr 1
        unfold Addr.add
        split
        · rename_i h; subst h; rfl
        · rfl) hr.one_ (by unfold maxLen; omega) hbytes hbase
    exact ⟨v', w', cells, hrun, hr, h2, h3, h5⟩

theorem wp_apd {o : Oper} {a : Act} {K : Act → World → Prop} {Q : Exit → Act → World → Prop} (s x : Operand) (t : TypeId)
    (ho : o.op = .call { callee := .builtin .append, args := #[s, x], argTypes := #[t, t] })
    {α : Type} {T : Ty α} {e : TypeId} {bytes base : Nat} (hE : ElemOf P t e T.size bytes) {v : Value} {n : Nat} {cs : List Value} (hv : a.eval s = v) (hown : w.ownsRow base e T.size v n cs)
    {D : Nat → Prop} {A : Option Addr} {m c : Nat} {ys : List α} (hx : a.eval x = .slice A m c) (hs : Sl T w D A m c ys) (h63 : n + m ≤ 140737488355328) (hbytes : (n + m) * bytes ≤ 140737488355328) (hbase : base ≤ w.heap.size)
    (h : ∀ v' w' news, Row T w D ys news → w'.ownsRow base e T.size v' (n + m) (cs ++ news) → w.grownBy w' v.ownBlock → (v'.ownBlock = v.ownBlock ∨ v'.ownBlock = some w.heap.size) → K (a.put o.dst v') w') : o.wp P a w K Q := by
  obtain ⟨v', w', news, hrun, h1, h2, h3, h4⟩ := run_apd (P := P) (ty := o.type) w hE hown hs h63 hbytes hbase
  unfold Oper.wp execOp
  simp only [ho, resolve, invoke, builtin, Sem.run_bind, Sem.run_pure, Result.andThen_ok, List.map_toArray, List.map_cons, List.map_nil, hv, hx, hrun]
  exact h v' w' news h1 h2 h3 h4

theorem wpList_apd {ops : Array Oper} {rest : List Oper} {o : Oper} {a : Act} {Q : Exit → Act → World → Prop} (hgd : o.guard = none) (s x : Operand) (t : TypeId)
    (ho : o.op = .call { callee := .builtin .append, args := #[s, x], argTypes := #[t, t] })
    {α : Type} {T : Ty α} {e : TypeId} {bytes base : Nat} (hE : ElemOf P t e T.size bytes) {v : Value} {n : Nat} {cs : List Value} (hv : a.eval s = v) (hown : w.ownsRow base e T.size v n cs)
    {D : Nat → Prop} {A : Option Addr} {m c : Nat} {ys : List α} (hx : a.eval x = .slice A m c) (hs : Sl T w D A m c ys) (h63 : n + m ≤ 140737488355328) (hbytes : (n + m) * bytes ≤ 140737488355328) (hbase : base ≤ w.heap.size)
    (h : ∀ v' w' news, Row T w D ys news → w'.ownsRow base e T.size v' (n + m) (cs ++ news) → w.grownBy w' v.ownBlock → (v'.ownBlock = v.ownBlock ∨ v'.ownBlock = some w.heap.size) → wpList P ops Q rest (a.put o.dst v') w') : wpList P ops Q (o :: rest) a w :=
  wpList_plain hgd fun _ hK => wp_apd w s x t ho hE hv hown hx hs h63 hbytes hbase fun v' w' news h1 h2 h3 h4 => hK _ _ (h v' w' news h1 h2 h3 h4)
end

section
variable {P : Program} (w : World)
/-- append(own, source...): what is owned behind it reads as both lists. -/
theorem wpList_apo {ops : Array Oper} {rest : List Oper} {o : Oper} {a : Act} {Q : Exit → Act → World → Prop} (hgd : o.guard = none) (s x : Operand) (t : TypeId)
    (ho : o.op = .call { callee := .builtin .append, args := #[s, x], argTypes := #[t, t] })
    {α : Type} {T : Ty α} {e : TypeId} {bytes base : Nat} (hE : ElemOf P t e T.size bytes) {v : Value} {n : Nat} {xs : List α} {D : Nat → Prop} (hv : a.eval s = v) (hown : Own T w base e D v n xs) (hD : ∀ b, D b → b < w.heap.size ∧ some b ≠ v.ownBlock)
    {D' : Nat → Prop} {A : Option Addr} {m c : Nat} {ys : List α} (hx : a.eval x = .slice A m c) (hs : Sl T w D' A m c ys) (hD' : ∀ b, D' b → b < w.heap.size ∧ some b ≠ v.ownBlock) (h63 : n + m ≤ 140737488355328) (hbytes : (n + m) * bytes ≤ 140737488355328) (hbase : base ≤ w.heap.size)
    (h : ∀ v' w', Own T w' base e (fun b => D b ∨ D' b) v' (n + m) (xs ++ ys) → w.grownBy w' v.ownBlock → Below base w w' → (v'.ownBlock = v.ownBlock ∨ v'.ownBlock = some w.heap.size) → wpList P ops Q rest (a.put o.dst v') w') : wpList P ops Q (o :: rest) a w := by
  obtain ⟨cs, h1, h2⟩ := hown
  refine wpList_apd w hgd s x t ho hE hv h1 hx hs h63 hbytes hbase fun v' w' news hn ho' hg hb => ?_
  have hk : ∀ {D : Nat → Prop}, (∀ b, D b → b < w.heap.size ∧ some b ≠ v.ownBlock) → ∀ p : Addr, D p.block → w'.cell? p = w.cell? p := fun hD p hp => World.cell?_of_block (hg.block p.block (hD _ hp).1 (hD _ hp).2)
  exact h v' w' ⟨_, ho', ((h2.keep (hk hD)).more fun _ h => .inl h).append ((hn.keep (hk hD')).more fun _ h => .inr h)⟩ hg ((Below.refl base w).grown hg hbase fun k hk => (h1.lt k hk).1) hb
end

/-- A row of strings that the call owns. -/
def OwnS (w : World) (base : Nat) (e : TypeId) (v : Value) (n : Nat) (xs : List ByteArray) : Prop := Own tStr w base e (fun _ => False) v n xs

/-- One string more, or a slice of strings more. -/
theorem wpList_aps {P : Program} (w : World) {ops : Array Oper} {rest : List Oper} {o : Oper} {a : Act} {Q : Exit → Act → World → Prop} (hgd : o.guard = none) (s x : Operand) (t : TypeId)
    (ho : o.op = .call { callee := .builtin .append, args := #[s, x], argTypes := #[t, t] })
    {e : TypeId} {bytes base : Nat} (hE : ElemOf P t e 1 bytes) {v : Value} {n : Nat} {xs : List ByteArray} (hv : a.eval s = v) (hown : OwnS w base e v n xs)
    {D' : Nat → Prop} {A : Option Addr} {m c : Nat} {ys : List ByteArray} (hx : a.eval x = .slice A m c) (hs : Sl tStr w D' A m c ys) (h63 : n + m ≤ 140737488355328) (hbytes : (n + m) * bytes ≤ 140737488355328) (hbase : base ≤ w.heap.size)
    (h : ∀ v' w', OwnS w' base e v' (n + m) (xs ++ ys) → w.grownBy w' v.ownBlock → Below base w w' → (v'.ownBlock = v.ownBlock ∨ v'.ownBlock = some w.heap.size) → wpList P ops Q rest (a.put o.dst v') w') : wpList P ops Q (o :: rest) a w := by
  obtain ⟨cs, h1, h2⟩ := hown
  refine wpList_apd (T := tStr) w hgd s x t ho hE hv h1 hx hs h63 hbytes hbase fun v' w' news hn ho' hg hb => ?_
  exact h v' w' ⟨_, ho', (row_str h2).append (row_str hn)⟩ hg ((Below.refl base w).grown hg hbase fun k hk => (h1.lt k hk).1) hb

theorem OwnS.made (w : World) (base : Nat) (e : TypeId) (hb : base ≤ w.heap.size) : OwnS (w.alloc (.cells #[] e)) base e (.slice (some ⟨w.heap.size, 0, none⟩) 0 0) 0 [] :=
  ⟨[], World.ownsRow_made w #[] 0 hb (by simp) (by simp), Row.nil⟩
theorem OwnS.al {w : World} {base : Nat} {e : TypeId} {v : Value} {n : Nat} {xs : List ByteArray} (h : OwnS w base e v n xs) (o : Obj) : OwnS (w.alloc o) base e v n xs := Own.alloc h o fun _ h => h.elim
theorem OwnS.sl {w : World} {base : Nat} {e : TypeId} {v : Value} {n : Nat} {xs : List ByteArray} (h : OwnS w base e v n xs) (hn : n * 16 ≤ 140737488355328) : ∃ A c, v = .slice A n c ∧ Sl tStr w (lt w.heap.size) A n c xs := by
  obtain ⟨A, c, rfl⟩ := Own.form h
  exact ⟨A, c, rfl, (Own.sl h (by decide) hn).more fun b hb => hb.elim False.elim fun hb => hb.2⟩

/-- Data that lie alike in whatever world: nothing is led to. -/
def Flat {α : Type} (T : Ty α) : Prop := ∀ {w w' : World} {D D' : Nat → Prop} {x : α} {cs : List Value}, T.rep w D x cs → T.rep w' D' x cs
theorem flatInt (k : IntKind) : Flat (tInt k) := fun h => h
theorem flatStr : Flat tStr := fun h => h
theorem flatPair {α β : Type} {S : Ty α} {T : Ty β} (hS : Flat S) (hT : Flat T) : Flat (tPair S T) := fun h => by
  obtain ⟨c1, c2, rfl, h1, h2⟩ := h
  exact ⟨c1, c2, rfl, hS h1, hT h2⟩
theorem Row.flat {α : Type} {T : Ty α} (hT : Flat T) {w w' : World} {D D' : Nat → Prop} {xs : List α} {cs : List Value} (h : Row T w D xs cs) : Row T w' D' xs cs := by
  induction xs generalizing cs with
  | nil => exact h
  | cons x xs ih =>
    obtain ⟨c1, c2, rfl, h1, h2⟩ := h
    exact ⟨c1, c2, rfl, hT h1, ih h2⟩
theorem Own.flat {α : Type} {T : Ty α} (hT : Flat T) {w : World} {base : Nat} {e : TypeId} {D D' : Nat → Prop} {v : Value} {n : Nat} {xs : List α} (h : Own T w base e D v n xs) : Own T w base e D' v n xs := by
  obtain ⟨cells, h1, h2⟩ := h
  exact ⟨cells, h1, h2.flat hT⟩
/-- A row of such data that the call owns. -/
def OwnF {α : Type} (T : Ty α) (w : World) (base : Nat) (e : TypeId) (v : Value) (n : Nat) (xs : List α) : Prop := Own T w base e (fun _ => False) v n xs
section
variable {α : Type} {T : Ty α} {w w' : World} {base : Nat} {e : TypeId} {v : Value} {n : Nat} {xs : List α}
theorem OwnF.nil (w : World) (base : Nat) (e : TypeId) : OwnF T w base e (.slice none 0 0) 0 ([] : List α) := Own.nil _ _ _ _
theorem OwnF.made (w : World) (base : Nat) (e : TypeId) (hb : base ≤ w.heap.size) : OwnF T (w.alloc (.cells #[] e)) base e (.slice (some ⟨w.heap.size, 0, none⟩) 0 0) 0 ([] : List α) :=
  ⟨[], World.ownsRow_made w #[] 0 hb (by simp) (by simp), Row.nil⟩
theorem OwnF.al (h : OwnF T w base e v n xs) (o : Obj) : OwnF T (w.alloc o) base e v n xs := Own.alloc h o fun _ h => h.elim
theorem OwnF.below {B : Nat} (h : OwnF T w base e v n xs) (hb : Below B w w') (hv : w.heap.size ≤ B) : OwnF T w' base e v n xs := Own.below h hb (fun k hk => Nat.lt_of_lt_of_le (Own.lt h k hk).2 hv) fun _ h => h.elim
theorem OwnF.drew (h : OwnF T w base e v n xs) : OwnF T w.drew base e v n xs := Own.drew h
theorem OwnF.sl (h : OwnF T w base e v n xs) (hpos : 0 < T.size) (hn : n * T.bytes ≤ 140737488355328) : ∃ A c, v = .slice A n c ∧ Sl T w (lt w.heap.size) A n c xs := by
  obtain ⟨A, c, rfl⟩ := Own.form h
  exact ⟨A, c, rfl, (Own.sl h hpos hn).more fun b hb => hb.elim False.elim fun hb => hb.2⟩
end
/-- append to such a row: one more, or a slice of them. -/
theorem wpList_apf {P : Program} (w : World) {ops : Array Oper} {rest : List Oper} {o : Oper} {a : Act} {Q : Exit → Act → World → Prop} {α : Type} {T : Ty α} (hT : Flat T) (hgd : o.guard = none) (s x : Operand) (t : TypeId)
    (ho : o.op = .call { callee := .builtin .append, args := #[s, x], argTypes := #[t, t] })
    {e : TypeId} {bytes base : Nat} (hE : ElemOf P t e T.size bytes) {v : Value} {n : Nat} {xs : List α} (hv : a.eval s = v) (hown : OwnF T w base e v n xs)
    {D' : Nat → Prop} {A : Option Addr} {m c : Nat} {ys : List α} (hx : a.eval x = .slice A m c) (hs : Sl T w D' A m c ys) (h63 : n + m ≤ 140737488355328) (hbytes : (n + m) * bytes ≤ 140737488355328) (hbase : base ≤ w.heap.size)
    (h : ∀ v' w', OwnF T w' base e v' (n + m) (xs ++ ys) → w.grownBy w' v.ownBlock → Below base w w' → (v'.ownBlock = v.ownBlock ∨ v'.ownBlock = some w.heap.size) → wpList P ops Q rest (a.put o.dst v') w') : wpList P ops Q (o :: rest) a w := by
  obtain ⟨cs, h1, h2⟩ := hown
  refine wpList_apd (T := T) w hgd s x t ho hE hv h1 hx hs h63 hbytes hbase fun v' w' news hn ho' hg hb => ?_
  exact h v' w' ⟨_, ho', (h2.flat hT).append (hn.flat hT)⟩ hg ((Below.refl base w).grown hg hbase fun k hk => (h1.lt k hk).1) hb
/-- One new element in a block of its own. -/
theorem Sl.one_new {α : Type} {T : Ty α} (hT : Flat T) (w : World) (e : TypeId) {x : α} {cs : List Value} (hr : T.rep w (fun _ => False) x cs) (hb : T.bytes ≤ 140737488355328) : Sl T (w.alloc (.cells cs.toArray e)) (lt (w.heap.size + 1)) (some ⟨w.heap.size, 0, none⟩) 1 1 [x] :=
  Sl.fresh (B := w.heap.size) e (Row.one (hT hr)) (Nat.le_refl _) rfl (by omega)

/-- append of one element that lies in a block of its own: the run. -/
theorem run_ap1 {P : Program} (w : World) {t ty : TypeId} {α : Type} {T : Ty α} {e : TypeId} {bytes base : Nat} (hE : ElemOf P t e T.size bytes) {v : Value} {n : Nat} {xs : List α} {D : Nat → Prop} (hown : Own T w base e D v n xs) (hD : ∀ b, D b → b < w.heap.size ∧ some b ≠ v.ownBlock)
    {b off c : Nat} {y : α} {cs : List Value} (hr : T.rep w D y cs) (hcell : ∀ j u, cs[j]? = some u → w.cell? ⟨b, off + j, none⟩ = some u) (h63 : n + 1 ≤ 140737488355328) (hbytes : (n + 1) * bytes ≤ 140737488355328) (hbase : base ≤ w.heap.size) :
    ∃ v' w', (Builtin.append_ #[t, t] ty #[v, .slice (some ⟨b, off, none⟩) 1 c]).run P w = .ok v' w' ∧ Own T w' base e D v' (n + 1) (xs ++ [y]) ∧ w.grownBy w' v.ownBlock ∧ Below base w w' ∧ (v'.ownBlock = v.ownBlock ∨ v'.ownBlock = some w.heap.size) := by
  obtain ⟨cells, h1, h2⟩ := hown
  obtain ⟨i, z, hi, hz, hsize, hby, hzs⟩ := hE.info
  obtain ⟨v', w', hrun, ho', hg, _, hb⟩ := run_append_own_at (P := P) w base t ty e i z T.size bytes hE.under hi hz hsize hby hzs hE.pos v n cells h1 ⟨b, off, none⟩ 1 c cs (by rw [T.len hr, Nat.one_mul])
    (fun j u hu => by
      rw [← hcell j u hu]
      congr 1
      unfold Addr.add
      split
      · rename_i h; subst h; rfl
      · rfl) (T.one hr) (by unfold maxLen; omega) hbytes hbase
  have hk : ∀ p : Addr, D p.block → w'.cell? p = w.cell? p := fun p hp => World.cell?_of_block (hg.block p.block (hD _ hp).1 (hD _ hp).2)
  exact ⟨v', w', hrun, ⟨_, ho', (h2.keep hk).append (Row.one (T.keep hr hk))⟩, hg, (Below.refl base w).grown hg hbase fun k hk => (h1.lt k hk).1, hb⟩

/-- .. at the walk. -/
theorem wpList_ap1 {P : Program} (w : World) {ops : Array Oper} {rest : List Oper} {o : Oper} {a : Act} {Q : Exit → Act → World → Prop} (hgd : o.guard = none) (s x : Operand) (t : TypeId)
    (ho : o.op = .call { callee := .builtin .append, args := #[s, x], argTypes := #[t, t] })
    {α : Type} {T : Ty α} {e : TypeId} {bytes base : Nat} (hE : ElemOf P t e T.size bytes) {v : Value} {n : Nat} {xs : List α} {D : Nat → Prop} (hv : a.eval s = v) (hown : Own T w base e D v n xs) (hD : ∀ b, D b → b < w.heap.size ∧ some b ≠ v.ownBlock)
    {b off c : Nat} {y : α} {cs : List Value} (hx : a.eval x = .slice (some ⟨b, off, none⟩) 1 c) (hr : T.rep w D y cs) (hcell : ∀ j u, cs[j]? = some u → w.cell? ⟨b, off + j, none⟩ = some u) (h63 : n + 1 ≤ 140737488355328) (hbytes : (n + 1) * bytes ≤ 140737488355328) (hbase : base ≤ w.heap.size)
    (h : ∀ v' w', Own T w' base e D v' (n + 1) (xs ++ [y]) → w.grownBy w' v.ownBlock → Below base w w' → (v'.ownBlock = v.ownBlock ∨ v'.ownBlock = some w.heap.size) → wpList P ops Q rest (a.put o.dst v') w') : wpList P ops Q (o :: rest) a w := by
  obtain ⟨v', w', hrun, h1, h2, h3, h4⟩ := run_ap1 (P := P) (t := t) (ty := o.type) (c := c) w hE hown hD hr hcell h63 hbytes hbase
  refine wpList_plain hgd fun K hK => ?_
  unfold Oper.wp execOp
  simp only [ho, resolve, invoke, builtin, Sem.run_bind, Sem.run_pure, Result.andThen_ok, List.map_toArray, List.map_cons, List.map_nil, hv, hx, hrun]
  exact hK _ _ (h v' w' h1 h2 h3 h4)

/-- .. at a step of a region that draws its order. -/
theorem step_ap1 {P : Program} (w : World) {ops : Array Oper} {o : Oper} {a : Act} {K : Act → World → Prop} {Q : Exit → Act → World → Prop} {E : Prop} (hgd : o.guard = none) (s x : Operand) (t : TypeId)
    (ho : o.op = .call { callee := .builtin .append, args := #[s, x], argTypes := #[t, t] })
    {α : Type} {T : Ty α} {e : TypeId} {bytes base : Nat} (hE : ElemOf P t e T.size bytes) {v : Value} {n : Nat} {xs : List α} {D : Nat → Prop} (hv : a.eval s = v) (hown : Own T w base e D v n xs) (hD : ∀ b, D b → b < w.heap.size ∧ some b ≠ v.ownBlock)
    {b off c : Nat} {y : α} {cs : List Value} (hx : a.eval x = .slice (some ⟨b, off, none⟩) 1 c) (hr : T.rep w D y cs) (hcell : ∀ j u, cs[j]? = some u → w.cell? ⟨b, off + j, none⟩ = some u) (h63 : n + 1 ≤ 140737488355328) (hbytes : (n + 1) * bytes ≤ 140737488355328) (hbase : base ≤ w.heap.size)
    (h : ∀ v' w', Own T w' base e D v' (n + 1) (xs ++ [y]) → w.grownBy w' v.ownBlock → Below base w w' → (v'.ownBlock = v.ownBlock ∨ v'.ownBlock = some w.heap.size) → K (a.put o.dst v') w') :
    if Region.wanted o (yielded ops a.tmps) = true then Oper.wp P o a w K Q else E := by
  obtain ⟨v', w', hrun, h1, h2, h3, h4⟩ := run_ap1 (P := P) (t := t) (ty := o.type) (c := c) w hE hown hD hr hcell h63 hbytes hbase
  rw [if_pos (by simp [Region.wanted, hgd])]
  unfold Oper.wp execOp
  simp only [ho, resolve, invoke, builtin, Sem.run_bind, Sem.run_pure, Result.andThen_ok, List.map_toArray, List.map_cons, List.map_nil, hv, hx, hrun]
  exact h v' w' h1 h2 h3 h4
theorem Own.cut_to {α : Type} {T : Ty α} {w : World} {base : Nat} {e : TypeId} {D : Nat → Prop} {A : Option Addr} {n c k : Nat} {xs : List α} (h : Own T w base e D (.slice A n c) n xs) (hk : k ≤ n) : Own T w base e D (.slice A k c) k (xs.take k) := by
  obtain ⟨cells, h1, h2⟩ := h
  have hl := h1.1
  have hm := Nat.mul_le_mul_right T.size hk
  refine ⟨cells.take (k * T.size), ⟨by rw [List.length_take]; omega, ?_⟩, h2.take k⟩
  rcases h1.2 with ⟨hv, h0⟩ | ⟨g, cap, cur, hv, hb, hh, hnc, hcm, hsz, htk⟩
  · injection hv with hA hn hc
    subst hA hc
    exact .inl ⟨by rw [show k = 0 from by omega], by omega⟩
  · injection hv with hA hn hc
    subst hA hc
    exact .inr ⟨g, c, cur, rfl, hb, hh, by omega, hcm, hsz, by rw [← htk, List.take_take, Nat.min_eq_left hm]⟩
theorem Own.down {α : Type} {T : Ty α} {w : World} {base base' : Nat} {e : TypeId} {D : Nat → Prop} {v : Value} {n : Nat} {xs : List α} (h : Own T w base e D v n xs) (hb : base' ≤ base) : Own T w base' e D v n xs := by
  obtain ⟨cells, h1, h2⟩ := h
  refine ⟨cells, ⟨h1.1, ?_⟩, h2⟩
  rcases h1.2 with h3 | ⟨g, cap, cur, hv, hb', rest⟩
  · exact .inl h3
  · exact .inr ⟨g, cap, cur, hv, Nat.le_trans hb hb', rest⟩

end Go.Cl
