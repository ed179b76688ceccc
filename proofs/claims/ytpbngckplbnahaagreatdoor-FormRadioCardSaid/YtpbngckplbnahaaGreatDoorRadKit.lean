/-
A document of the call's own in its box, built node by node: what its loop keeps.
-/
import Derived.Test.YtpbngckplbnahaaGreatDoorDcAt
import Derived.Test.YtpbngckplbnahaaGreatDoorRadLaw
import Derived.Test.YtpbngckplbnahaaGreatDoorFormKit
namespace Go.Proofs.YtpbngckplbnahaaGreatDoor
open Go.RowKit Go.Cl

/-- A slice of attributes made here. -/
theorem own_da {w : World} {base : Nat} (cs : List Value) (ats : List DAttr) (h : Row tDA w (fun _ => False) ats cs) (hb : base ≤ w.heap.size) (hn : ats.length ≤ 1000) : OwnF tDA (w.alloc (.cells cs.toArray 31)) base 31 (.slice (some ⟨w.heap.size, 0, none⟩) ats.length ats.length) ats.length ats := by
  have hl : cs.length = ats.length * 2 := h.len
  refine ⟨cs, ⟨hl, .inr ⟨w.heap.size, ats.length, cs.toArray, rfl, hb, heap_alloc_new w _, Nat.le_refl _, by unfold maxLen; omega, hl, ?_⟩⟩, h.keep fun _ h => h.elim⟩
  exact List.take_of_length_le (Nat.le_of_eq hl)
structure Rb (w0 w : World) (E g c : Nat) (ps : List (Value × Value)) (out : List Nd) : Prop where
  at_ : DcAt w E g c w0.heap.size out false ps
  low : Below w0.heap.size w0 w
section
variable {w0 w w1 w' : World} {E g c : Nat} {ps : List (Value × Value)} {out : List Nd}
theorem Rb.next (h : Rb w0 w E g c ps out) (hb : Below w.heap.size w w') : Rb w0 w' E g c ps out := ⟨h.at_.next hb, h.low.trans (hb.mono h.low.size)⟩
theorem Rb.kids (h : Rb w0 w E g c ps out) {m : Nat} {x : Nd} {p : Value × Value} {v : Value} {ks : List Int} (hx : out[m]? = some x) (hp : ps[m]? = some p) (hg : w.grownBy w1 p.2.ownBlock) (hv : OwnF (tInt .i64) w1 w0.heap.size 3 v ks.length ks)
    (hb : v.ownBlock = p.2.ownBlock ∨ ∃ k, v.ownBlock = some k ∧ w.heap.size ≤ k) (hk : ks.length ≤ 1000) : Rb w0 (w1.setCell ⟨g, m * 6 + 5, none⟩ v) E g c (ps.set m (p.1, v)) (out.set m { x with kids := ks }) := by
  have hP := h.at_.ed.parts m x p hx hp
  exact ⟨h.at_.kids hx hp hg hv hb hk, (h.low.grown hg h.low.size (fun k hk => (Own.lt hP.kids k hk).1)).setCell (p := ⟨g, m * 6 + 5, none⟩) h.at_.gs.1 v⟩
/-- A node more. -/
theorem Rb.app (h : Rb w0 w E g c ps out) {y : Nd} {A' : Option Addr} {c' kb : Nat} (hl : out.length < 1000) (hy : EdOk y) (hk : y.kids = []) (ho : OwnF tDA w w0.heap.size 31 (.slice A' y.attrs.length c') y.attrs.length y.attrs) (hfr : ∀ (i : Nat) q b, ps[i]? = some q → q.1.ownBlock = some b → (Value.slice A' y.attrs.length c').ownBlock ≠ some b)
    (hcell : ∀ (j : Nat) u, (ndRow y (.slice A' y.attrs.length c', .slice none 0 0))[j]? = some u → w.cell? ⟨kb, 0 + j, none⟩ = some u) :
    ∃ g' c2 w5, (Builtin.append_ #[27, 27] 27 #[.slice (some ⟨g, 0, none⟩) out.length c, .slice (some ⟨kb, 0, none⟩) 1 1]).run Tryz.prog w = .ok (.slice (some ⟨g', 0, none⟩) (out.length + 1) c2) w5 ∧ w5.frozen? ⟨E, 0, none⟩ = false ∧ w5.cell? ⟨E, 0, none⟩ = some (.slice (some ⟨g, 0, none⟩) out.length c) ∧
      Rb w0 (w5.setCell ⟨E, 0, none⟩ (.slice (some ⟨g', 0, none⟩) (out.length + 1) c2)) E g' c2 (ps ++ [(.slice A' y.attrs.length c', .slice none 0 0)]) (out ++ [y]) := by
  obtain ⟨g', c2, w5, hrun, hg, hb, hE5, hd⟩ := h.at_.app hl hy hk ho hfr hcell
  have hbx5 := hE5.trans h.at_.box
  exact ⟨g', c2, w5, hrun, free_blk hbx5, cell_blk hbx5 rfl, hd, (h.low.trans hb).setCell (p := ⟨E, 0, none⟩) h.at_.le _⟩
/-- .. from a box of its own. -/
theorem Rb.more (h : Rb w0 w E g c ps out) {y : Nd} {A' : Option Addr} {c' : Nat} (hl : out.length < 1000) (hy : EdOk y) (hk : y.kids = []) (ho : OwnF tDA w w0.heap.size 31 (.slice A' y.attrs.length c') y.attrs.length y.attrs) (hfr : ∀ (i : Nat) q b, ps[i]? = some q → q.1.ownBlock = some b → (Value.slice A' y.attrs.length c').ownBlock ≠ some b) :
    ∃ g' c2 w5, (Builtin.append_ #[27, 27] 27 #[.slice (some ⟨g, 0, none⟩) out.length c, .slice (some ⟨w.heap.size, 0, none⟩) 1 1]).run Tryz.prog (w.alloc (.cells #[.int .i64 y.kind, .string y.name, .slice A' y.attrs.length c', .string y.text, .int .i64 y.parent, .slice none 0 0] 26)) = .ok (.slice (some ⟨g', 0, none⟩) (out.length + 1) c2) w5 ∧ w5.frozen? ⟨E, 0, none⟩ = false ∧ w5.cell? ⟨E, 0, none⟩ = some (.slice (some ⟨g, 0, none⟩) out.length c) ∧
      Rb w0 (w5.setCell ⟨E, 0, none⟩ (.slice (some ⟨g', 0, none⟩) (out.length + 1) c2)) E g' c2 (ps ++ [(.slice A' y.attrs.length c', .slice none 0 0)]) (out ++ [y]) := by
  have hb : Below w.heap.size w (w.alloc (.cells #[.int .i64 y.kind, .string y.name, .slice A' y.attrs.length c', .string y.text, .int .i64 y.parent, .slice none 0 0] 26)) := (Below.refl _ _).alloc (Nat.le_refl _) _
  exact (h.next hb).app hl hy hk (ho.below hb (Nat.le_refl _)) hfr (cell_new w (ndRow y (.slice A' y.attrs.length c', .slice none 0 0)) _)
/-- A number more among a node's kids. -/
theorem Rb.grow (h : Rb w0 w E g c ps out) {m : Nat} {y : Nd} (hy : out[m]? = some y) {z : Int} (hz : (Lit.int .i64 z).wf = true) (hfew : y.kids.length < 1000) :
    ∃ p1 A5 c5 A' c' w', ps[m]? = some (p1, .slice A5 y.kids.length c5) ∧ w.cell? ⟨g, m * 6 + 5, none⟩ = some (.slice A5 y.kids.length c5) ∧
      (Builtin.append_ #[23, 23] 23 #[.slice A5 y.kids.length c5, .slice (some ⟨w.heap.size, 0, none⟩) 1 1]).run Tryz.prog (w.drew.alloc (.cells #[.int .i64 z] 3)) = .ok (.slice A' (y.kids.length + 1) c') w' ∧
      w'.frozen? ⟨g, m * 6 + 5, none⟩ = false ∧ w'.cell? ⟨g, m * 6 + 5, none⟩ = some (.slice A5 y.kids.length c5) ∧ w'.cell? ⟨E, 0, none⟩ = some (.slice (some ⟨g, 0, none⟩) out.length c) ∧
      Rb w0 (w'.setCell ⟨g, m * 6 + 5, none⟩ (.slice A' (y.kids.length + 1) c')) E g c (ps.set m (p1, .slice A' (y.kids.length + 1) c')) (out.set m { y with kids := y.kids ++ [z] }) ∧
      (∀ (K : Nat) (cs : Array Value), K ≠ g → w.heap[K]? = some (.cells cs 26 (0, 0)) → w'.heap[K]? = some (.cells cs 26 (0, 0)) ∧ (w'.setCell ⟨g, m * 6 + 5, none⟩ (.slice A' (y.kids.length + 1) c')).heap[K]? = some (.cells cs 26 (0, 0))) ∧
      (∀ (b : Nat) (v : Value) (k : Nat) (xs : List DAttr), OwnF tDA w b 31 v k xs → OwnF tDA (w'.setCell ⟨g, m * 6 + 5, none⟩ (.slice A' (y.kids.length + 1) c')) b 31 v k xs) := by
  obtain ⟨p, hp, hN⟩ := h.at_.node hy
  obtain ⟨p1, p2⟩ := p
  obtain ⟨A5, c5, e5⟩ := Own.form hN.parts.kids
  have e5' : p2 = .slice A5 y.kids.length c5 := e5
  subst e5'
  have hkd : OwnF (tInt .i64) w w0.heap.size 3 (.slice A5 y.kids.length c5) y.kids.length y.kids := hN.parts.kids
  have hg1 : w.grownBy (w.drew.alloc (.cells #[.int .i64 z] 3)) (Value.slice A5 y.kids.length c5).ownBlock := grownBy.trans' (grown_drew w _) (grown_al _ _ _)
  have hkd1 : OwnF (tInt .i64) (w.drew.alloc (.cells #[.int .i64 z] 3)) w0.heap.size 3 (.slice A5 y.kids.length c5) y.kids.length y.kids := OwnF.below hkd (((Below.refl w.heap.size w).drew).alloc (Nat.le_refl _) _) (Nat.le_refl _)
  obtain ⟨v', w', hrun, hown, hg, hb, hv⟩ := run_ap1 (P := Tryz.prog) (t := 23) (ty := 23) (c := 1) (T := tInt .i64) (y := z) (cs := [.int .i64 z]) _ elemI hkd1 (fun _ h => h.elim) ⟨rfl, hz⟩ (cell_new w.drew [.int .i64 z] 3) (by omega) (by omega) (Nat.le_trans h.low.size (by simp))
  obtain ⟨A', c', rfl⟩ := Own.form hown
  have hgw := grownBy.trans' hg1 hg
  have hgs := h.at_.gs
  have hgo : (Value.slice A5 y.kids.length c5).ownBlock ≠ some g := fun e => by
    obtain ⟨cur, hcur⟩ := own_block_at h.at_.ed.row (rfl : (Value.slice (some ⟨g, 0, none⟩) out.length c).ownBlock = some g)
    exact own_ne_block (by decide) hkd hcur e
  have hbg := hgw.block g hgs.2 (fun e => hgo e.symm)
  have hbE := hgw.block E h.at_.lt (fun e => own_ne_block (by decide) hkd h.at_.box e.symm)
  have hlen : (y.kids ++ [z]).length = y.kids.length + 1 := by simp
  have hset := grown_set w' g (m * 6 + 5) (.slice A' (y.kids.length + 1) c')
  have hrow1 : OwnF tN6 w' w0.heap.size 26 (.slice (some ⟨g, 0, none⟩) out.length c) out.length (List.zipWith ndRow out ps) := ownF_kept h.at_.ed.row hgw (own_ne (by decide) h.at_.ed.row hkd)
  refine ⟨p1, A5, c5, A', c', w', hp, hN.c5, hrun, ?_, cell_same hbg hN.c5, cell_same hbE h.at_.c0, ?_, fun K cs hK hbx => ?_, fun b v k xs hvx => ?_⟩
  · have := hN.free (m * 6 + 5)
    unfold World.frozen? at this ⊢
    rw [hbg]
    exact this
  · exact h.kids hy hp hgw (by rw [hlen]; exact hown) (hv.imp id fun e => ⟨_, e, by simp⟩) (by rw [hlen]; omega)
  · have h1 := (hgw.block K (Array.getElem?_eq_some_iff.1 hbx).1 (fun e => own_ne_block (by decide) hkd hbx e.symm)).trans hbx
    exact ⟨h1, (Below.heap_setCell _ _ _ _ hK).trans h1⟩
  · have h1 := ownF_kept hvx hgw (own_ne (by decide) hvx hkd)
    exact ownF_kept h1 hset (own_ne (by decide) h1 hrow1)
/-- All rows of attributes lie ahead of it. -/
theorem Rb.before (h : Rb w0 w E g c ps out) {i : Nat} {q : Value × Value} {b : Nat} (hq : ps[i]? = some q) (hb : q.1.ownBlock = some b) : b < w.heap.size := by
  have hi := (List.getElem?_eq_some_iff.1 hq).1
  rw [h.at_.ed.len] at hi
  exact (Own.lt (h.at_.ed.parts i _ q (List.getElem?_eq_getElem hi) hq).attrs b hb).2
end
/-- The form with no button yet. -/
theorem rad_start {w0 w : World} (hb : w0.heap.size ≤ w.heap.size) (hlow : Below w0.heap.size w0 w) (req : Bool) : ∃ c ps, Rb w0 (((w.alloc (.cells #[.int .i64 1] 3)).alloc (.cells #[.int .i64 1, .string ⟨#[]⟩, .slice none 0 0, .string ⟨#[]⟩, .int .i64 (-1), .slice (some ⟨w.heap.size, 0, none⟩) 1 1, .int .i64 2, .string (⟨#[102, 111, 114, 109]⟩ : ByteArray), .slice none 0 0, .string ⟨#[]⟩, .int .i64 0, .slice none 0 0] 26)).alloc (.cells #[.slice (some ⟨w.heap.size + 1, 0, none⟩) 2 2, .bool false] 29)) (w.heap.size + 1 + 1) (w.heap.size + 1) c ps (radD req []) ∧ c = 2 := by
  obtain ⟨w1, hw1⟩ : ∃ w1, w1 = w.alloc (.cells #[.int .i64 1] 3) := ⟨_, rfl⟩
  have z1 : w1.heap.size = w.heap.size + 1 := by rw [hw1]; exact World.size_alloc w _
  obtain ⟨w2, hw2⟩ : ∃ w2, w2 = w1.alloc (.cells #[.int .i64 1, .string ⟨#[]⟩, .slice none 0 0, .string ⟨#[]⟩, .int .i64 (-1), .slice (some ⟨w.heap.size, 0, none⟩) 1 1, .int .i64 2, .string (⟨#[102, 111, 114, 109]⟩ : ByteArray), .slice none 0 0, .string ⟨#[]⟩, .int .i64 0, .slice none 0 0] 26) := ⟨_, rfl⟩
  have z2 : w2.heap.size = w.heap.size + 2 := by rw [hw2, World.size_alloc, z1]
  rw [← hw1, ← hw2]
  have hk1 : OwnF (tInt .i64) w1 w0.heap.size 3 (.slice (some ⟨w.heap.size, 0, none⟩) 1 1) 1 [1] := by rw [hw1]; exact own_oneF 1 (by decide) hb
  have hb12 : Below w1.heap.size w1 w2 := by rw [hw2]; exact (Below.refl _ _).alloc (Nat.le_refl _) _
  have hk2 := hk1.below hb12 (Nat.le_refl _)
  have hrow : OwnF tN6 w2 w0.heap.size 26 (.slice (some ⟨w.heap.size + 1, 0, none⟩) 2 2) 2 [ndRow ⟨1, ⟨#[]⟩, [], ⟨#[]⟩, -1, [1]⟩ (.slice none 0 0, .slice (some ⟨w.heap.size, 0, none⟩) 1 1), ndRow (radF 0) (.slice none 0 0, .slice none 0 0)] :=
    ⟨_, ⟨rfl, .inr ⟨w.heap.size + 1, 2, _, rfl, by omega, by rw [hw2, ← z1]; exact heap_alloc_new w1 _, Nat.le_refl _, by decide, rfl, rfl⟩⟩, ⟨_, _, rfl, ⟨rfl, ndRow_ok ⟨_, _, _, rfl⟩ ⟨_, _, _, rfl⟩⟩, _, _, rfl, ⟨rfl, ndRow_ok ⟨_, _, _, rfl⟩ ⟨_, _, _, rfl⟩⟩, rfl⟩⟩
  have hed : Ed w2 w0.heap.size (.slice (some ⟨w.heap.size + 1, 0, none⟩) 2 2) (radD req []) [(.slice none 0 0, .slice (some ⟨w.heap.size, 0, none⟩) 1 1), (.slice none 0 0, .slice none 0 0)] := by
    refine ⟨rfl, (show 2 ≤ 100000 by decide), hrow, fun i x p hx hp => ?_, fun i j p q hp hq hij => ?_⟩
    · match i, hx, hp with
      | 0, hx, hp =>
        obtain rfl := Option.some.inj hx
        obtain rfl := Option.some.inj hp
        exact ⟨OwnF.nil _ _ _, hk2, ⟨by decide, by decide, by decide, by decide, by decide, by decide⟩⟩
      | 1, hx, hp =>
        obtain rfl := Option.some.inj hx
        obtain rfl := Option.some.inj hp
        exact ⟨OwnF.nil _ _ _, OwnF.nil _ _ _, ⟨by decide, by decide, by decide, by decide, by decide, by decide⟩⟩
      | i + 2, hx, hp => simp at hp
    · match i, j, hp, hq with
      | 0, 0, _, _ => exact absurd rfl hij
      | 0, 1, hp, hq =>
        obtain rfl := Option.some.inj hp
        obtain rfl := Option.some.inj hq
        exact ⟨.inl rfl, .inr (fun e => by cases e)⟩
      | 1, _, hp, _ =>
        obtain rfl := Option.some.inj hp
        exact ⟨.inl rfl, .inl rfl⟩
      | i + 2, _, hp, _ => simp at hp
      | 0, j + 2, _, hq => simp at hq
  have hb23 : Below w2.heap.size w2 (w2.alloc (.cells #[.slice (some ⟨w.heap.size + 1, 0, none⟩) 2 2, .bool false] 29)) := (Below.refl _ _).alloc (Nat.le_refl _) _
  have hlow2 : Below w0.heap.size w0 w2 := by rw [hw2, hw1]; exact (hlow.alloc hb _).alloc (by simp; omega) _
  refine ⟨2, _, ⟨⟨by rw [← z2]; exact heap_alloc_new w2 _, hed.next hb23, by omega, (show 0 < 2 by decide), (show 2 ≤ 2 by decide)⟩, hlow2.trans (hb23.mono hlow2.size)⟩, rfl⟩
/-- The form with a button more. -/
theorem rad_next (req : Bool) (cs : List Bool) (c : Bool) : (radD req cs).set 1 { (radF cs.length) with kids := radK cs.length ++ [((cs.length + 2 : Nat) : Int)] } ++ [radN req cs.length c] = radD req (cs ++ [c]) := by
  unfold radD
  rw [List.mapIdx_append]
  show _ :: _ :: (_ ++ [_]) = _
  rw [List.length_append, List.length_singleton]
  have : radF (cs.length + 1) = { (radF cs.length) with kids := radK cs.length ++ [((cs.length + 2 : Nat) : Int)] } := by
    unfold radF radK
    rw [List.range_succ, List.map_append]
    rfl
  rw [this]
  simp
/-- A node that is being made, in a box of its own. -/
structure Rx (wr W : World) (X : Nat) (ats : List DAttr) (A' : Option Addr) (c' : Nat) : Prop where
  low : Below wr.heap.size wr W
  box : W.heap[X]? = some (.cells #[.int .i64 2, .string (⟨#[105, 110, 112, 117, 116]⟩ : ByteArray), .slice A' ats.length c', .string ⟨#[]⟩, .int .i64 1, .slice none 0 0] 26 (0, 0))
  own : OwnF tDA W wr.heap.size 31 (.slice A' ats.length c') ats.length ats
  far : wr.heap.size ≤ X
theorem Rx.c2 {wr W : World} {X : Nat} {ats : List DAttr} {A' : Option Addr} {c' : Nat} (h : Rx wr W X ats A' c') : W.cell? ⟨X, 2, none⟩ = some (.slice A' ats.length c') := cell_blk h.box rfl
theorem Rx.free {wr W : World} {X : Nat} {ats : List DAttr} {A' : Option Addr} {c' : Nat} (h : Rx wr W X ats A' c') : W.frozen? ⟨X, 2, none⟩ = false := free_blk h.box
/-- .. with an attribute more. -/
theorem Rx.add {wr W : World} {X : Nat} {ats : List DAttr} {A' : Option Addr} {c' : Nat} (h : Rx wr W X ats A' c') (hl : ats.length ≤ 1000) (nm : ByteArray) (hn : nm.size ≤ 1152921504606846976) :
    ∃ A2 c2 w5, (Builtin.append_ #[24, 24] 24 #[.slice A' ats.length c', .slice (some ⟨W.heap.size, 0, none⟩) 1 1]).run Tryz.prog (W.alloc (.cells #[.string nm, .string ⟨#[]⟩] 31)) = .ok (.slice A2 (ats.length + 1) c2) w5 ∧ w5.frozen? ⟨X, 2, none⟩ = false ∧ w5.cell? ⟨X, 2, none⟩ = some (.slice A' ats.length c') ∧
      Rx wr (w5.setCell ⟨X, 2, none⟩ (.slice A2 (ats.length + 1) c2)) X (ats ++ [(nm, (⟨#[]⟩ : ByteArray))]) A2 c2 := by
  have hb1 : Below W.heap.size W (W.alloc (.cells #[.string nm, .string ⟨#[]⟩] 31)) := (Below.refl _ _).alloc (Nat.le_refl _) _
  have hX := (Array.getElem?_eq_some_iff.1 h.box).1
  have ho1 := h.own.below hb1 (Nat.le_refl _)
  have hx1 := (hb1.block X hX).trans h.box
  obtain ⟨v', w5, hrun, hown, hg, hb, hv⟩ := run_ap1 (P := Tryz.prog) (t := 24) (ty := 24) (c := 1) (T := tDA) (y := (nm, ⟨#[]⟩)) (cs := [.string nm, .string ⟨#[]⟩]) _ elemDA ho1 (fun _ h => h.elim) ⟨[_], [_], rfl, ⟨rfl, hn⟩, rfl, (show 0 ≤ 1152921504606846976 by decide)⟩ (cell_new W [.string nm, .string ⟨#[]⟩] 31) (by omega) (by omega) (Nat.le_trans h.low.size (by simp))
  obtain ⟨A2, c2, rfl⟩ := Own.form hown
  have hll : (ats ++ [(nm, (⟨#[]⟩ : ByteArray))]).length = ats.length + 1 := by simp
  have hx5 := (hg.block X (by simp; omega) (fun e => own_ne_block (by decide) ho1 hx1 e.symm)).trans hx1
  have hlow5 : Below wr.heap.size wr w5 := (h.low.trans (hb1.mono h.low.size)).trans hb
  refine ⟨A2, c2, w5, hrun, free_blk hx5, cell_blk hx5 rfl, hlow5.setCell (p := ⟨X, 2, none⟩) h.far _, by rw [hll]; exact set_blk hx5 _, ?_, h.far⟩
  rw [hll]
  exact Own.kept hown (grown_set w5 X 2 _) (Or.inr (own_ne_block (by decide) hown hx5)) (fun _ h => h.elim)
theorem letter_at : ∀ j, j < 10 → (⟨#[97, 98, 99, 100, 101, 102, 103, 104, 105, 106]⟩ : ByteArray).extract j (j + 1) = ⟨#[(97 + j).toUInt8]⟩ := by decide +kernel
/-- A button as it begins. -/
theorem rx_start (wr : World) (j : Nat) : Rx wr ((wr.alloc (.cells #[.string (⟨#[116, 121, 112, 101]⟩ : ByteArray), .string (⟨#[82, 65, 68, 73, 79]⟩ : ByteArray), .string (⟨#[110, 97, 109, 101]⟩ : ByteArray), .string (⟨#[114]⟩ : ByteArray), .string (⟨#[118, 97, 108, 117, 101]⟩ : ByteArray), .string ⟨#[(97 + j).toUInt8]⟩] 31)).alloc (.cells #[.int .i64 2, .string (⟨#[105, 110, 112, 117, 116]⟩ : ByteArray), .slice (some ⟨wr.heap.size, 0, none⟩) 3 3, .string ⟨#[]⟩, .int .i64 1, .slice none 0 0] 26)) (wr.heap.size + 1) [((⟨#[116, 121, 112, 101]⟩ : ByteArray), (⟨#[82, 65, 68, 73, 79]⟩ : ByteArray)), ((⟨#[110, 97, 109, 101]⟩ : ByteArray), (⟨#[114]⟩ : ByteArray)), ((⟨#[118, 97, 108, 117, 101]⟩ : ByteArray), ⟨#[(97 + j).toUInt8]⟩)] (some ⟨wr.heap.size, 0, none⟩) 3 := by
  obtain ⟨w1, hw1⟩ : ∃ w1, w1 = wr.alloc (.cells #[.string (⟨#[116, 121, 112, 101]⟩ : ByteArray), .string (⟨#[82, 65, 68, 73, 79]⟩ : ByteArray), .string (⟨#[110, 97, 109, 101]⟩ : ByteArray), .string (⟨#[114]⟩ : ByteArray), .string (⟨#[118, 97, 108, 117, 101]⟩ : ByteArray), .string ⟨#[(97 + j).toUInt8]⟩] 31) := ⟨_, rfl⟩
  have z1 : w1.heap.size = wr.heap.size + 1 := by rw [hw1]; exact World.size_alloc wr _
  have ho : OwnF tDA w1 wr.heap.size 31 (.slice (some ⟨wr.heap.size, 0, none⟩) 3 3) 3 [((⟨#[116, 121, 112, 101]⟩ : ByteArray), (⟨#[82, 65, 68, 73, 79]⟩ : ByteArray)), ((⟨#[110, 97, 109, 101]⟩ : ByteArray), (⟨#[114]⟩ : ByteArray)), ((⟨#[118, 97, 108, 117, 101]⟩ : ByteArray), ⟨#[(97 + j).toUInt8]⟩)] := by
    rw [hw1]
    exact own_da [.string (⟨#[116, 121, 112, 101]⟩ : ByteArray), .string (⟨#[82, 65, 68, 73, 79]⟩ : ByteArray), .string (⟨#[110, 97, 109, 101]⟩ : ByteArray), .string (⟨#[114]⟩ : ByteArray), .string (⟨#[118, 97, 108, 117, 101]⟩ : ByteArray), .string ⟨#[(97 + j).toUInt8]⟩] [((⟨#[116, 121, 112, 101]⟩ : ByteArray), (⟨#[82, 65, 68, 73, 79]⟩ : ByteArray)), ((⟨#[110, 97, 109, 101]⟩ : ByteArray), (⟨#[114]⟩ : ByteArray)), ((⟨#[118, 97, 108, 117, 101]⟩ : ByteArray), ⟨#[(97 + j).toUInt8]⟩)] ⟨[_, _], _, rfl, ⟨[_], [_], rfl, ⟨rfl, by decide⟩, rfl, by decide⟩, [_, _], _, rfl, ⟨[_], [_], rfl, ⟨rfl, by decide⟩, rfl, by decide⟩, [_, _], _, rfl, ⟨[_], [_], rfl, ⟨rfl, (show 5 ≤ 1152921504606846976 by decide)⟩, rfl, (show 1 ≤ 1152921504606846976 by decide)⟩, rfl⟩ (Nat.le_refl _) (show 3 ≤ 1000 by decide)
  rw [← hw1]
  have hb0 : Below wr.heap.size wr w1 := by rw [hw1]; exact (Below.refl _ _).alloc (Nat.le_refl _) _
  have hb1 : Below w1.heap.size w1 (w1.alloc (.cells #[.int .i64 2, .string (⟨#[105, 110, 112, 117, 116]⟩ : ByteArray), .slice (some ⟨wr.heap.size, 0, none⟩) 3 3, .string ⟨#[]⟩, .int .i64 1, .slice none 0 0] 26)) := (Below.refl _ _).alloc (Nat.le_refl _) _
  exact ⟨hb0.trans (hb1.mono hb0.size), by rw [← z1]; exact heap_alloc_new w1 _, ho.below hb1 (Nat.le_refl _), by omega⟩
end Go.Proofs.YtpbngckplbnahaaGreatDoor
