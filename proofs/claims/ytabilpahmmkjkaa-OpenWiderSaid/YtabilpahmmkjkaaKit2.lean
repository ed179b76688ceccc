/-
Slices that the call made itself: what they own; append as a law over what the source reads as. No program in sight.
-/
import Derived.Test.YtabilpahmmkjkaaKit
import Derived.Maps.AppendAt
import Derived.Laws.OwnMore
import Derived.OwnWalk
import Derived.RegionTactic
namespace Go.Cl
open Go.RowKit

/-- A fresh block as a slice. -/
theorem Sl.fresh {α : Type} {T : Ty α} {w : World} {B n : Nat} {xs : List α} {cells : List Value} (e : TypeId) (hr : Row T w (lt B) xs cells) (hB : B ≤ w.heap.size) (hn : n = xs.length) (hb : n ≤ 140737488355328) :
    Sl T (w.alloc (.cells cells.toArray e)) (lt (w.heap.size + 1)) (some ⟨w.heap.size, 0, none⟩) n n xs :=
  ⟨hn, Nat.le_refl _, hb, by unfold maxLen; omega, by simp, fun h0 => ⟨w.heap.size, 0, cells, rfl, Nat.lt_succ_self _,
    (hr.keep fun p hp => World.cell?_alloc_lt w _ p (Nat.lt_of_lt_of_le hp hB)).more fun b hb => by have h1 : b < B := hb; show b < w.heap.size + 1; omega,
    fun j u hu => by
      rw [cell_of_row _ w.heap.size _ cells.toArray e (0, 0) (heap_alloc_new w _)]
      simpa using hu⟩⟩

/-- A row that the call owns, and what it reads as. -/
def Own {α : Type} (T : Ty α) (w : World) (base : Nat) (e : TypeId) (D : Nat → Prop) (v : Value) (n : Nat) (xs : List α) : Prop :=
  ∃ cells, w.ownsRow base e T.size v n cells ∧ Row T w D xs cells

section
variable {α : Type} {T : Ty α} {w w' : World} {base : Nat} {e : TypeId} {D D' : Nat → Prop} {v : Value} {n : Nat} {xs : List α}
theorem Own.nil (w : World) (base : Nat) (e : TypeId) (D : Nat → Prop) : Own T w base e D (.slice none 0 0) 0 ([] : List α) := ⟨[], World.ownsRow_nil w base e T.size, Row.nil⟩
theorem Own.more (h : Own T w base e D v n xs) (hk : ∀ b, D b → D' b) : Own T w base e D' v n xs := by
  obtain ⟨cells, h1, h2⟩ := h
  exact ⟨cells, h1, h2.more hk⟩
theorem Own.form (h : Own T w base e D v n xs) : ∃ A c, v = .slice A n c := by
  obtain ⟨cells, h1, h2⟩ := h
  rcases h1.2 with ⟨rfl, rfl⟩ | ⟨g, cap, cur, rfl, _⟩
  · exact ⟨none, 0, rfl⟩
  · exact ⟨_, _, rfl⟩
theorem Own.len (h : Own T w base e D v n xs) (hpos : 0 < T.size) : n = xs.length := by
  obtain ⟨cells, h1, h2⟩ := h
  have e1 := h1.1
  rw [h2.len] at e1
  exact (Nat.eq_of_mul_eq_mul_right hpos e1).symm
theorem Own.lt (h : Own T w base e D v n xs) : ∀ k, v.ownBlock = some k → base ≤ k ∧ k < w.heap.size := by
  obtain ⟨cells, h1, _⟩ := h
  exact h1.lt
/-- Read as a slice: what it leads to lies in D or in the row itself. -/
theorem Own.sl {A : Option Addr} {c : Nat} (h : Own T w base e D (.slice A n c) n xs) (hpos : 0 < T.size) (hn : n ≤ 140737488355328) :
    Sl T w (fun b => D b ∨ (base ≤ b ∧ b < w.heap.size)) A n c xs := by
  have hl := h.len hpos
  obtain ⟨cells, h1, h2⟩ := h
  rcases h1.2 with ⟨hv, h0⟩ | ⟨g, cap, cur, hv, hb, hh, hnc, hcm, hsz, htk⟩
  · injection hv with hA hn0 hc0
    subst hA hc0
    subst h0
    exact ⟨hl, Nat.le_refl _, by omega, by simp, fun _ => rfl, fun h => absurd h (by omega)⟩
  · injection hv with hA hn0 hc0
    subst hA hc0
    have hlt := (Array.getElem?_eq_some_iff.1 hh).1
    refine ⟨hl, hnc, hn, hcm, by simp, fun _ => ⟨g, 0, cells, rfl, .inr ⟨hb, hlt⟩, h2.more fun b hb => .inl hb, fun j u hu => ?_⟩⟩
    rw [cell_of_row w g _ cur e (0, 0) hh, ← htk] at *
    have hj := (List.getElem?_eq_some_iff.1 hu).1
    rw [List.length_take] at hj
    rw [List.getElem?_take_of_lt (by omega)] at hu
    simpa using hu
/-- Kept where the row's own block and the blocks of D are as they were. -/
theorem Own.kept {row : Option Nat} (h : Own T w base e D v n xs) (hg : w.grownBy w' row) (hne : v.ownBlock = none ∨ v.ownBlock ≠ row) (hD : ∀ b, D b → b < w.heap.size ∧ some b ≠ row) : Own T w' base e D v n xs := by
  obtain ⟨cells, h1, h2⟩ := h
  exact ⟨cells, h1.kept hg hne, h2.keep fun p hp => World.cell?_of_block (hg.block p.block (hD _ hp).1 (hD _ hp).2)⟩
theorem Own.below {B : Nat} (h : Own T w base e D v n xs) (hb : Below B w w') (hv : ∀ k, v.ownBlock = some k → k < B) (hD : ∀ b, D b → b < B) : Own T w' base e D v n xs := by
  obtain ⟨cells, h1, h2⟩ := h
  refine ⟨cells, ⟨h1.1, ?_⟩, h2.keep fun p hp => hb.cell (hD _ hp)⟩
  rcases h1.2 with h3 | ⟨g, cap, cur, rfl, hb', hh, rest⟩
  · exact .inl h3
  · exact .inr ⟨g, cap, cur, rfl, hb', by rw [hb.block g (hv g rfl)]; exact hh, rest⟩
theorem Own.alloc (h : Own T w base e D v n xs) (o : Obj) (hD : ∀ b, D b → b < w.heap.size) : Own T (w.alloc o) base e D v n xs :=
  h.below ((Below.refl w.heap.size w).alloc (Nat.le_refl _) o) (fun k hk => (h.lt k hk).2) hD
theorem Own.drew (h : Own T w base e D v n xs) : Own T w.drew base e D v n xs := by
  obtain ⟨cells, h1, h2⟩ := h
  exact ⟨cells, h1.drew, h2.keep fun _ _ => rfl⟩
end

/-- What the program's tables say of a slice type and its element. -/
structure ElemOf (P : Program) (t e : TypeId) (size bytes : Nat) : Prop where
  under : P.underlying t = some (.slice e)
  info : ∃ i z, P.info? e = some i ∧ i.zero = some z ∧ i.size = size ∧ i.bytes = bytes ∧ z.cells.size = size
  pos : 0 < size

theorem mkElem {P : Program} {t e : TypeId} {size bytes : Nat} {z : Value} (h1 : P.underlying t = some (.slice e)) (h2 : (P.info? e).map (fun i => (i.zero, i.size, i.bytes)) = some (some z, size, bytes)) (h3 : z.cells.size = size) (h4 : 0 < size) : ElemOf P t e size bytes :=
  ⟨h1, by
    cases hi : P.info? e with
    | none => rw [hi] at h2; cases h2
    | some i =>
      rw [hi] at h2
      simp only [Option.map_some, Option.some.injEq, Prod.mk.injEq] at h2
      exact ⟨i, z, rfl, h2.1, h2.2.1, h2.2.2, h3⟩, h4⟩

section
variable {P : Program} (w : World)

theorem run_append_of_nil (base : Nat) (t ty e : TypeId) (i : TypeInfo) (size : Nat) (ht : P.underlying t = some (.slice e)) (hi : P.info? e = some i)
    (v : Value) (n : Nat) (xs : List Value) (hown : w.ownsRow base e size v n xs) (c : Nat) : (Builtin.append_ #[t, t] ty #[v, .slice none 0 c]).run P w = .ok v w := by
  rcases hown.2 with ⟨rfl, rfl⟩ | ⟨g, cap, cur, rfl, _, _, hnc, _⟩
  · simp [Builtin.append_, run_underlying ht, sizeOf, typeInfo, hi, Builtin.lenOf, Builtin.firstCells]
  · simp [Builtin.append_, run_underlying ht, sizeOf, typeInfo, hi, Builtin.lenOf, Builtin.firstCells, hnc, storeCells]

/-- append(own, source...), whatever the source: nil, empty or not. -/
theorem run_apd {α : Type} {T : Ty α} {t ty e : TypeId} {bytes base : Nat} (hE : ElemOf P t e T.size bytes) {v : Value} {n : Nat} {cs : List Value} (hown : w.ownsRow base e T.size v n cs)
    {D : Nat → Prop} {A : Option Addr} {m c : Nat} {ys : List α} (hs : Sl T w D A m c ys) (h63 : n + m ≤ 140737488355328) (hbytes : (n + m) * bytes ≤ 140737488355328) (hbase : base ≤ w.heap.size) :
    ∃ v' w' news, (Builtin.append_ #[t, t] ty #[v, .slice A m c]).run P w = .ok v' w' ∧ Row T w D ys news ∧ w'.ownsRow base e T.size v' (n + m) (cs ++ news) ∧ w.grownBy w' v.ownBlock ∧
      (v'.ownBlock = v.ownBlock ∨ v'.ownBlock = some w.heap.size) := by
  obtain ⟨i, z, hi, hz, hsize, hby, hzs⟩ := hE.info
  rcases Nat.eq_zero_or_pos m with h0 | h0
  · subst h0
    obtain rfl : ys = [] := List.eq_nil_of_length_eq_zero hs.hn.symm
    rcases A with _ | ad
    · obtain rfl : c = 0 := hs.nil_ rfl
      exact ⟨v, w, [], run_append_of_nil w base t ty e i T.size hE.under hi v n cs hown 0, Row.nil, by simpa using hown, World.grownBy.refl w _, .inl rfl⟩
    · obtain ⟨v', w', hrun, h2, h3, _, h5⟩ := run_append_own_at (P := P) w base t ty e i z T.size bytes hE.under hi hz hsize hby hzs hE.pos v n cs hown ad 0 c [] (by simp) (by simp) (by simp) (by unfold maxLen; omega) hbytes hbase
      exact ⟨v', w', [], hrun, Row.nil, h2, h3, h5⟩
  · obtain ⟨b, o, cells, rfl, hb, hr, hcell⟩ := hs.at_ h0
    obtain ⟨v', w', hrun, h2, h3, _, h5⟩ := run_append_own_at (P := P) w base t ty e i z T.size bytes hE.under hi hz hsize hby hzs hE.pos v n cs hown ⟨b, o, none⟩ m c cells (by rw [hr.len, hs.hn])
      (fun j u hu => by
        rw [← hcell j u hu]
        congr 1
        unfold Addr.add
        split
        · rename_i h; subst h; rfl
        · rfl) hr.one_ (by unfold maxLen; omega) hbytes hbase
    exact ⟨v', w', cells, hrun, hr, h2, h3, h5⟩

theorem wp_apd {o : Oper} {a : Act} {K : Act → World → Prop} {Q : Exit → Act → World → Prop} (s x : Operand) (t : TypeId)
    (ho : o.op = .call { callee := .builtin .append, args := #[s, x], argTypes := #[t, t] })
    {α : Type} {T : Ty α} {e : TypeId} {bytes base : Nat} (hE : ElemOf P t e T.size bytes) {v : Value} {n : Nat} {cs : List Value} (hv : a.eval s = v) (hown : w.ownsRow base e T.size v n cs)
    {D : Nat → Prop} {A : Option Addr} {m c : Nat} {ys : List α} (hx : a.eval x = .slice A m c) (hs : Sl T w D A m c ys) (h63 : n + m ≤ 140737488355328) (hbytes : (n + m) * bytes ≤ 140737488355328) (hbase : base ≤ w.heap.size)
    (h : ∀ v' w' news, Row T w D ys news → w'.ownsRow base e T.size v' (n + m) (cs ++ news) → w.grownBy w' v.ownBlock → (v'.ownBlock = v.ownBlock ∨ v'.ownBlock = some w.heap.size) → K (a.put o.dst v') w') : o.wp P a w K Q := by
  obtain ⟨v', w', news, hrun, h1, h2, h3, h4⟩ := run_apd (P := P) (ty := o.type) w hE hown hs h63 hbytes hbase
  unfold Oper.wp execOp
  simp only [ho, resolve, invoke, builtin, Sem.run_bind, Sem.run_pure, Result.andThen_ok, List.map_toArray, List.map_cons, List.map_nil, hv, hx, hrun]
  exact h v' w' news h1 h2 h3 h4

theorem wpList_apd {ops : Array Oper} {rest : List Oper} {o : Oper} {a : Act} {Q : Exit → Act → World → Prop} (hgd : o.guard = none) (s x : Operand) (t : TypeId)
    (ho : o.op = .call { callee := .builtin .append, args := #[s, x], argTypes := #[t, t] })
    {α : Type} {T : Ty α} {e : TypeId} {bytes base : Nat} (hE : ElemOf P t e T.size bytes) {v : Value} {n : Nat} {cs : List Value} (hv : a.eval s = v) (hown : w.ownsRow base e T.size v n cs)
    {D : Nat → Prop} {A : Option Addr} {m c : Nat} {ys : List α} (hx : a.eval x = .slice A m c) (hs : Sl T w D A m c ys) (h63 : n + m ≤ 140737488355328) (hbytes : (n + m) * bytes ≤ 140737488355328) (hbase : base ≤ w.heap.size)
    (h : ∀ v' w' news, Row T w D ys news → w'.ownsRow base e T.size v' (n + m) (cs ++ news) → w.grownBy w' v.ownBlock → (v'.ownBlock = v.ownBlock ∨ v'.ownBlock = some w.heap.size) → wpList P ops Q rest (a.put o.dst v') w') : wpList P ops Q (o :: rest) a w :=
  wpList_plain hgd fun _ hK => wp_apd w s x t ho hE hv hown hx hs h63 hbytes hbase fun v' w' news h1 h2 h3 h4 => hK _ _ (h v' w' news h1 h2 h3 h4)
end

section
variable {P : Program} (w : World)
/-- append(own, source...): what is owned behind it reads as both lists. -/
theorem wpList_apo {ops : Array Oper} {rest : List Oper} {o : Oper} {a : Act} {Q : Exit → Act → World → Prop} (hgd : o.guard = none) (s x : Operand) (t : TypeId)
    (ho : o.op = .call { callee := .builtin .append, args := #[s, x], argTypes := #[t, t] })
    {α : Type} {T : Ty α} {e : TypeId} {bytes base : Nat} (hE : ElemOf P t e T.size bytes) {v : Value} {n : Nat} {xs : List α} {D : Nat → Prop} (hv : a.eval s = v) (hown : Own T w base e D v n xs) (hD : ∀ b, D b → b < w.heap.size ∧ some b ≠ v.ownBlock)
    {D' : Nat → Prop} {A : Option Addr} {m c : Nat} {ys : List α} (hx : a.eval x = .slice A m c) (hs : Sl T w D' A m c ys) (hD' : ∀ b, D' b → b < w.heap.size ∧ some b ≠ v.ownBlock) (h63 : n + m ≤ 140737488355328) (hbytes : (n + m) * bytes ≤ 140737488355328) (hbase : base ≤ w.heap.size)
    (h : ∀ v' w', Own T w' base e (fun b => D b ∨ D' b) v' (n + m) (xs ++ ys) → w.grownBy w' v.ownBlock → Below base w w' → (v'.ownBlock = v.ownBlock ∨ v'.ownBlock = some w.heap.size) → wpList P ops Q rest (a.put o.dst v') w') : wpList P ops Q (o :: rest) a w := by
  obtain ⟨cs, h1, h2⟩ := hown
  refine wpList_apd w hgd s x t ho hE hv h1 hx hs h63 hbytes hbase fun v' w' news hn ho' hg hb => ?_
  have hk : ∀ {D : Nat → Prop}, (∀ b, D b → b < w.heap.size ∧ some b ≠ v.ownBlock) → ∀ p : Addr, D p.block → w'.cell? p = w.cell? p := fun hD p hp => World.cell?_of_block (hg.block p.block (hD _ hp).1 (hD _ hp).2)
  exact h v' w' ⟨_, ho', ((h2.keep (hk hD)).more fun _ h => .inl h).append ((hn.keep (hk hD')).more fun _ h => .inr h)⟩ hg ((Below.refl base w).grown hg hbase fun k hk => (h1.lt k hk).1) hb
end

/-- A row of strings that the call owns. -/
def OwnS (w : World) (base : Nat) (e : TypeId) (v : Value) (n : Nat) (xs : List ByteArray) : Prop := Own tStr w base e (fun _ => False) v n xs

/-- One string more, or a slice of strings more. -/
theorem wpList_aps {P : Program} (w : World) {ops : Array Oper} {rest : List Oper} {o : Oper} {a : Act} {Q : Exit → Act → World → Prop} (hgd : o.guard = none) (s x : Operand) (t : TypeId)
    (ho : o.op = .call { callee := .builtin .append, args := #[s, x], argTypes := #[t, t] })
    {e : TypeId} {bytes base : Nat} (hE : ElemOf P t e 1 bytes) {v : Value} {n : Nat} {xs : List ByteArray} (hv : a.eval s = v) (hown : OwnS w base e v n xs)
    {D' : Nat → Prop} {A : Option Addr} {m c : Nat} {ys : List ByteArray} (hx : a.eval x = .slice A m c) (hs : Sl tStr w D' A m c ys) (h63 : n + m ≤ 140737488355328) (hbytes : (n + m) * bytes ≤ 140737488355328) (hbase : base ≤ w.heap.size)
    (h : ∀ v' w', OwnS w' base e v' (n + m) (xs ++ ys) → w.grownBy w' v.ownBlock → Below base w w' → (v'.ownBlock = v.ownBlock ∨ v'.ownBlock = some w.heap.size) → wpList P ops Q rest (a.put o.dst v') w') : wpList P ops Q (o :: rest) a w := by
  obtain ⟨cs, h1, h2⟩ := hown
  refine wpList_apd (T := tStr) w hgd s x t ho hE hv h1 hx hs h63 hbytes hbase fun v' w' news hn ho' hg hb => ?_
  exact h v' w' ⟨_, ho', (row_str h2).append (row_str hn)⟩ hg ((Below.refl base w).grown hg hbase fun k hk => (h1.lt k hk).1) hb

theorem OwnS.made (w : World) (base : Nat) (e : TypeId) (hb : base ≤ w.heap.size) : OwnS (w.alloc (.cells #[] e)) base e (.slice (some ⟨w.heap.size, 0, none⟩) 0 0) 0 [] :=
  ⟨[], World.ownsRow_made w #[] 0 hb (by simp) (by simp), Row.nil⟩
theorem OwnS.al {w : World} {base : Nat} {e : TypeId} {v : Value} {n : Nat} {xs : List ByteArray} (h : OwnS w base e v n xs) (o : Obj) : OwnS (w.alloc o) base e v n xs := Own.alloc h o fun _ h => h.elim
theorem OwnS.sl {w : World} {base : Nat} {e : TypeId} {v : Value} {n : Nat} {xs : List ByteArray} (h : OwnS w base e v n xs) (hn : n ≤ 140737488355328) : ∃ A c, v = .slice A n c ∧ Sl tStr w (lt w.heap.size) A n c xs := by
  obtain ⟨A, c, rfl⟩ := Own.form h
  exact ⟨A, c, rfl, (Own.sl h (by decide) hn).more fun b hb => hb.elim False.elim fun hb => hb.2⟩

end Go.Cl
