/-
What serial.Back keeps while it reads lines: the document in its box, the row of the last nodes; what it reads (plain).
-/
import Derived.Test.YtfgmfmkibjfknaaDoorSerNode2
import Derived.Test.YtfgmfmkibjfknaaDoorSerLines
namespace Go.Proofs.YtfgmfmkibjfknaaDoor
open Go.RowKit Go.Cl
attribute [local go_sem ↓] Go.wp_at_zero Go.wp_at_succ

def rootN : Nd := ⟨1, ⟨#[]⟩, [], ⟨#[]⟩, -1, []⟩
/-- A node more, below another one. -/
def addN (l : List Nd) (m : Nat) (x : Nd) : List Nd := match l[m]? with
  | none => l
  | some y => l.set m { y with kids := y.kids ++ [(l.length : Int)] } ++ [{ x with parent := (m : Int) }]
theorem addN_at {l : List Nd} {m : Nat} {y : Nd} (x : Nd) (h : l[m]? = some y) : addN l m x = l.set m { y with kids := y.kids ++ [(l.length : Int)] } ++ [{ x with parent := (m : Int) }] := by
  unfold addN
  rw [h]
/-- What lines tell, below the last nodes of each depth. -/
def backF : Nat → List UInt8 → List Nd → List Int → Option (List Nd)
  | 0, _, l, _ => some l
  | f + 1, r, l, p => if r ≠ [] ∧ l.length ≤ 200 then
      match p[(Lib.cut r [10]).1.length - (Lib.trimLeftB (Lib.cut r [10]).1 32).length]? with
      | none => none
      | some q => backF f (Lib.cut r [10]).2.1 (addN l q.toNat (nodeR (Lib.trimLeftB (Lib.cut r [10]).1 32))) (p.take ((Lib.cut r [10]).1.length - (Lib.trimLeftB (Lib.cut r [10]).1 32).length + 1) ++ [(l.length : Int)])
    else some l
/-- What serial.Back says of a text. -/
def backR (s : List UInt8) : Option (List Nd × Bool) :=
  match backF 202 (if Lib.hasPrefix s [126, 10] then s.drop 2 else s) [rootN] [0] with
  | none => none
  | some l => if checkD l = 0 ∧ treeL l (Lib.hasPrefix s [126, 10]) = s then some (l, Lib.hasPrefix s [126, 10]) else none

/-- dom.New: a document of the call's own. -/
theorem ed_root {w : World} {base b : Nat} (hb : base ≤ b) (h : w.heap[b]? = some (.cells #[.int .i64 1, .string ⟨#[]⟩, .slice none 0 0, .string ⟨#[]⟩, .int .i64 (-1), .slice none 0 0] 45 (0, 0))) : Ed w base (.slice (some ⟨b, 0, none⟩) 1 1) [rootN] [(.slice none 0 0, .slice none 0 0)] := by
  refine ⟨rfl, by decide, ⟨ndRow rootN (.slice none 0 0, .slice none 0 0), ⟨rfl, .inr ⟨b, 1, _, rfl, hb, h, Nat.le_refl _, by decide, rfl, rfl⟩⟩, Row.one (T := tN6) ⟨rfl, ndRow_ok ⟨_, _, _, rfl⟩ ⟨_, _, _, rfl⟩⟩⟩, fun i x p hx hp => ?_, fun i j p q hp hq _ => ?_⟩
  · match i, hx, hp with
    | 0, hx, hp =>
      obtain rfl := Option.some.inj hx
      obtain rfl := Option.some.inj hp
      exact ⟨OwnF.nil _ _ _, OwnF.nil _ _ _, ⟨by decide, by decide, by decide, by decide, by decide, by decide⟩⟩
    | i + 1, hx, _ => simp at hx
  · match i, hp with
    | 0, hp =>
      obtain rfl := Option.some.inj hp
      exact ⟨Or.inl rfl, Or.inl rfl⟩
    | i + 1, hp => simp at hp
set_option maxRecDepth 100000 in
set_option maxHeartbeats 1000000 in
theorem newOwn_any (w : World) (base : Nat) (hbs : base ≤ w.heap.size) : Calls Tryd.prog 24 #[] w fun e w' => ∃ b, e = .returned (.agg #[.slice (some ⟨b, 0, none⟩) 1 1, .bool false]) ∧ Below w.heap.size w w' ∧ Ed w' base (.slice (some ⟨b, 0, none⟩) 1 1) [rootN] [(.slice none 0 0, .slice none 0 0)] := by
  go_enter Tryd.func24, Tryd.ntmps24
  go_wp2_with fail
  obtain ⟨w1, hw1⟩ : ∃ w1, w1 = w.alloc (.cells #[.slice (some ⟨w.heap.size + 1, 0, none⟩) 1 1, .bool false] 24) := ⟨_, rfl⟩
  have hz1 : w1.heap.size = w.heap.size + 1 := by rw [hw1]; exact World.size_alloc w _
  have hb1 : Below w.heap.size w w1 := by rw [hw1]; exact (Below.refl _ _).alloc (Nat.le_refl _) _
  refine bodyPost_ret (v := .agg #[.slice (some ⟨w.heap.size + 1, 0, none⟩) 1 1, .bool false]) (by simp [results, Tryd.results24, go_sem]) rfl ⟨w.heap.size + 1, rfl, ?_, ?_⟩
  · rw [← hw1]
    exact hb1.alloc (by omega) _
  · rw [← hw1, ← hz1]
    exact ed_root (by omega) (heap_alloc_new w1 _)

theorem own_cap6 {α : Type} {T : Ty α} {w : World} {base n m c : Nat} {e : TypeId} {D : Nat → Prop} {A : Option Addr} {xs : List α} (h : Own T w base e D (.slice A m c) n xs) : n ≤ c := by
  obtain ⟨_, h1, _⟩ := h
  rcases h1.2 with ⟨hv, h0⟩ | ⟨g', cap, cur, hv, _, _, hnc, _⟩
  · injection hv with _ _ hv
    omega
  · injection hv with _ _ hv
    omega
/-- A row that grows and is none of the document's. -/
theorem Ed.kept_row {w w1 : World} {base : Nat} {A : Value} {l : List Nd} {ps : List (Value × Value)} {row : Option Nat} (h : Ed w base A l ps) (hg : w.grownBy w1 row) (h1 : A.ownBlock = none ∨ A.ownBlock ≠ row)
    (h2 : ∀ (i : Nat) p, ps[i]? = some p → (p.1.ownBlock = none ∨ p.1.ownBlock ≠ row) ∧ (p.2.ownBlock = none ∨ p.2.ownBlock ≠ row)) : Ed w1 base A l ps :=
  ⟨h.len, h.few, ownF_kept h.row hg h1, fun i x p hx hp =>
    have hP := h.parts i x p hx hp
    ⟨ownF_kept hP.attrs hg (h2 i p hp).1, ownF_kept hP.kids hg (h2 i p hp).2, hP.ok⟩, h.apart⟩

/-! ### what the loop keeps -/
structure Bs (w0 w : World) (E g c : Nat) (q : Bool) (ps : List (Value × Value)) (out : List Nd) (v6 : Value) (path : List Int) : Prop where
  at_ : DcAt w E g c w0.heap.size out q ps
  low : Below w0.heap.size w0 w
  res : w.heap[w0.heap.size]? = some (.cells #[.slice none 0 0, .bool false] 24 (0, 0))
  far : w0.heap.size + 1 ≤ E
  ord : OwnF (tInt .i64) w w0.heap.size 3 v6 path.length path
  ordne : ∀ (j : Nat) p, ps[j]? = some p → v6.ownBlock ≠ p.2.ownBlock
section
variable {w0 w w1 w' : World} {E g c : Nat} {q : Bool} {ps : List (Value × Value)} {out : List Nd} {v6 : Value} {path : List Int}
theorem Bs.next (h : Bs w0 w E g c q ps out v6 path) (hb : Below w.heap.size w w') : Bs w0 w' E g c q ps out v6 path :=
  ⟨h.at_.next hb, h.low.trans (hb.mono h.low.size), (hb.block _ (Array.getElem?_eq_some_iff.1 h.res).1).trans h.res, h.far, h.ord.below hb (Nat.le_refl _), h.ordne⟩
/-- The kids of a node of it. -/
theorem Bs.kids (h : Bs w0 w E g c q ps out v6 path) {m : Nat} {x : Nd} {p : Value × Value} {v : Value} {ks : List Int} (hx : out[m]? = some x) (hp : ps[m]? = some p) (hg : w.grownBy w1 p.2.ownBlock) (hv : OwnF (tInt .i64) w1 w0.heap.size 3 v ks.length ks)
    (hb : v.ownBlock = p.2.ownBlock ∨ ∃ k, v.ownBlock = some k ∧ w.heap.size ≤ k) (hk : ks.length ≤ 1000) : Bs w0 (w1.setCell ⟨g, m * 6 + 5, none⟩ v) E g c q (ps.set m (p.1, v)) (out.set m { x with kids := ks }) v6 path := by
  have hP := h.at_.ed.parts m x p hx hp
  have hset := grown_set w1 g (m * 6 + 5) v
  have hblk : ∀ {j : Nat} {cs : Array Value} {fr : Nat × Nat}, w.heap[j]? = some (.cells cs 24 fr) → (w1.setCell ⟨g, m * 6 + 5, none⟩ v).heap[j]? = some (.cells cs 24 fr) := fun {j cs fr} hj =>
    (Below.heap_setCell _ _ _ _ (fun e2 => own_ne_block (by decide) h.at_.ed.row hj (by show some g = _; rw [e2]))).trans ((hg.block j (Array.getElem?_eq_some_iff.1 hj).1 (fun e2 => own_ne_block (by decide) hP.kids hj e2.symm)).trans hj)
  have hrow1 : OwnF tN6 w1 w0.heap.size 45 (.slice (some ⟨g, 0, none⟩) out.length c) out.length (List.zipWith ndRow out ps) := ownF_kept h.at_.ed.row hg (own_ne (by decide) h.at_.ed.row hP.kids)
  have hord1 := ownF_kept h.ord hg (Or.inr (h.ordne m p hp))
  refine ⟨h.at_.kids hx hp hg hv hb hk, (h.low.grown hg h.low.size (fun k hk => (Own.lt hP.kids k hk).1)).setCell (p := ⟨g, m * 6 + 5, none⟩) h.at_.gs.1 v, hblk h.res, h.far, ownF_kept hord1 hset (own_ne (by decide) hord1 hrow1), fun j a ha => ?_⟩
  by_cases e : m = j
  · subst e
    rw [List.getElem?_set_self (List.getElem?_eq_some_iff.1 hp).1] at ha
    obtain rfl := Option.some.inj ha
    rcases hb with e | ⟨k, e, hkl⟩
    · intro e2
      exact h.ordne m p hp (e2.trans e)
    · intro e2
      have := (Own.lt h.ord _ (e2.trans e)).2
      omega
  · rw [List.getElem?_set_ne e] at ha
    exact h.ordne j a ha
/-- A node more. -/
theorem Bs.app (h : Bs w0 w E g c q ps out v6 path) (h8 : v6.ownBlock ≠ none) {y : Nd} {A' : Option Addr} {c' kb : Nat} (hl : out.length < 1000) (hy : EdOk y) (hk : y.kids = []) (ho : OwnF tDA w w0.heap.size 58 (.slice A' y.attrs.length c') y.attrs.length y.attrs) (hfr : ∀ (i : Nat) q b, ps[i]? = some q → q.1.ownBlock = some b → (Value.slice A' y.attrs.length c').ownBlock ≠ some b)
    (hcell : ∀ (j : Nat) u, (ndRow y (.slice A' y.attrs.length c', .slice none 0 0))[j]? = some u → w.cell? ⟨kb, 0 + j, none⟩ = some u) :
    ∃ g' c2 w5, (Builtin.append_ #[22, 22] 22 #[.slice (some ⟨g, 0, none⟩) out.length c, .slice (some ⟨kb, 0, none⟩) 1 1]).run Tryd.prog w = .ok (.slice (some ⟨g', 0, none⟩) (out.length + 1) c2) w5 ∧ w5.frozen? ⟨E, 0, none⟩ = false ∧ w5.cell? ⟨E, 0, none⟩ = some (.slice (some ⟨g, 0, none⟩) out.length c) ∧
      Bs w0 (w5.setCell ⟨E, 0, none⟩ (.slice (some ⟨g', 0, none⟩) (out.length + 1) c2)) E g' c2 q (ps ++ [(.slice A' y.attrs.length c', .slice none 0 0)]) (out ++ [y]) v6 path := by
  obtain ⟨g', c2, w5, hrun, hg, hb, hE5, hd⟩ := h.at_.app hl hy hk ho hfr hcell
  have hset := grown_set w5 E 0 (.slice (some ⟨g', 0, none⟩) (out.length + 1) c2)
  have hbx5 := hE5.trans h.at_.box
  have hblk : ∀ {j : Nat} {cs : Array Value} {fr : Nat × Nat}, j ≠ E → w.heap[j]? = some (.cells cs 24 fr) → (w5.setCell ⟨E, 0, none⟩ (.slice (some ⟨g', 0, none⟩) (out.length + 1) c2)).heap[j]? = some (.cells cs 24 fr) := fun {j cs fr} hne hj =>
    (Below.heap_setCell _ _ _ _ hne).trans ((hg.block j (Array.getElem?_eq_some_iff.1 hj).1 (fun e2 => own_ne_block (by decide) h.at_.ed.row hj (by show some g = _; rw [← e2]))).trans hj)
  have hfar := h.far
  have hord1 := ownF_kept h.ord hg (own_ne (by decide) h.ord h.at_.ed.row)
  refine ⟨g', c2, w5, hrun, free_blk hbx5, cell_blk hbx5 rfl, hd, (h.low.trans hb).setCell (p := ⟨E, 0, none⟩) h.at_.le _, hblk (by omega) h.res, h.far, ownF_kept hord1 hset (Or.inr (own_ne_block (by decide) hord1 hbx5)), fun j a ha => ?_⟩
  by_cases hj : j < ps.length
  · rw [List.getElem?_append_left hj] at ha
    exact h.ordne j a ha
  · have hjl := (List.getElem?_eq_some_iff.1 ha).1
    rw [List.length_append, List.length_singleton] at hjl
    obtain rfl : j = ps.length := by omega
    rw [app_last] at ha
    obtain rfl := Option.some.inj ha
    exact h8
/-- .. from a box of its own. -/
theorem Bs.more (h : Bs w0 w E g c q ps out v6 path) (h8 : v6.ownBlock ≠ none) {y : Nd} {A' : Option Addr} {c' : Nat} (hl : out.length < 1000) (hy : EdOk y) (hk : y.kids = []) (ho : OwnF tDA w w0.heap.size 58 (.slice A' y.attrs.length c') y.attrs.length y.attrs) (hfr : ∀ (i : Nat) q b, ps[i]? = some q → q.1.ownBlock = some b → (Value.slice A' y.attrs.length c').ownBlock ≠ some b) :
    ∃ g' c2 w5, (Builtin.append_ #[22, 22] 22 #[.slice (some ⟨g, 0, none⟩) out.length c, .slice (some ⟨w.heap.size, 0, none⟩) 1 1]).run Tryd.prog (w.alloc (.cells #[.int .i64 y.kind, .string y.name, .slice A' y.attrs.length c', .string y.text, .int .i64 y.parent, .slice none 0 0] 45)) = .ok (.slice (some ⟨g', 0, none⟩) (out.length + 1) c2) w5 ∧ w5.frozen? ⟨E, 0, none⟩ = false ∧ w5.cell? ⟨E, 0, none⟩ = some (.slice (some ⟨g, 0, none⟩) out.length c) ∧
      Bs w0 (w5.setCell ⟨E, 0, none⟩ (.slice (some ⟨g', 0, none⟩) (out.length + 1) c2)) E g' c2 q (ps ++ [(.slice A' y.attrs.length c', .slice none 0 0)]) (out ++ [y]) v6 path := by
  have hb : Below w.heap.size w (w.alloc (.cells #[.int .i64 y.kind, .string y.name, .slice A' y.attrs.length c', .string y.text, .int .i64 y.parent, .slice none 0 0] 45)) := (Below.refl _ _).alloc (Nat.le_refl _) _
  exact (h.next hb).app h8 hl hy hk (ho.below hb (Nat.le_refl _)) hfr (cell_new w (ndRow y (.slice A' y.attrs.length c', .slice none 0 0)) _)
/-- A number of the path. -/
theorem Bs.cell6 {A : Option Addr} {n6 c6 : Nat} (h : Bs w0 w E g c q ps out (.slice A n6 c6) path) {i : Nat} {k : Int} (hk : path[i]? = some k) : ∃ b6, A = some ⟨b6, 0, none⟩ ∧ n6 = path.length ∧ w.cell? ⟨b6, i, none⟩ = some (.int .i64 k) ∧ (Lit.int .i64 k).wf = true := by
  have hf := h.ord.form
  obtain ⟨A1, c1, e⟩ := hf
  simp only [Value.slice.injEq] at e
  obtain ⟨rfl, rfl, rfl⟩ := e
  obtain ⟨g', cells, e, _, _, hr, hc, _⟩ := Own.block h.ord (by have := (List.getElem?_eq_some_iff.1 hk).1; omega)
  subst e
  obtain ⟨cs, ⟨rfl, hw⟩, hj⟩ := hr.at_ hk
  have h0 := hc _ _ (hj 0 _ rfl)
  have e2 : i * (tInt .i64).size + 0 = i := Nat.mul_one i
  rw [e2] at h0
  exact ⟨g', rfl, rfl, h0, hw⟩
/-- A number more among a node's kids. -/
theorem Bs.grow (h : Bs w0 w E g c q ps out v6 path) {m : Nat} {y : Nd} (hy : out[m]? = some y) {z : Int} (hz : (Lit.int .i64 z).wf = true) (hfew : y.kids.length < 1000) :
    ∃ p1 A5 c5 A' c' w', ps[m]? = some (p1, .slice A5 y.kids.length c5) ∧ w.cell? ⟨g, m * 6 + 5, none⟩ = some (.slice A5 y.kids.length c5) ∧
      (Builtin.append_ #[40, 40] 40 #[.slice A5 y.kids.length c5, .slice (some ⟨w.heap.size, 0, none⟩) 1 1]).run Tryd.prog (w.drew.alloc (.cells #[.int .i64 z] 3)) = .ok (.slice A' (y.kids.length + 1) c') w' ∧
      w'.frozen? ⟨g, m * 6 + 5, none⟩ = false ∧ w'.cell? ⟨g, m * 6 + 5, none⟩ = some (.slice A5 y.kids.length c5) ∧ w'.cell? ⟨E, 0, none⟩ = some (.slice (some ⟨g, 0, none⟩) out.length c) ∧
      Bs w0 (w'.setCell ⟨g, m * 6 + 5, none⟩ (.slice A' (y.kids.length + 1) c')) E g c q (ps.set m (p1, .slice A' (y.kids.length + 1) c')) (out.set m { y with kids := y.kids ++ [z] }) v6 path ∧
      (∀ (K : Nat) (cs : Array Value), K ≠ g → w.heap[K]? = some (.cells cs 45 (0, 0)) → w'.heap[K]? = some (.cells cs 45 (0, 0)) ∧ (w'.setCell ⟨g, m * 6 + 5, none⟩ (.slice A' (y.kids.length + 1) c')).heap[K]? = some (.cells cs 45 (0, 0))) ∧
      (∀ (v : Value) (k : Nat) (xs : List DAttr), OwnF tDA w w0.heap.size 58 v k xs → OwnF tDA (w'.setCell ⟨g, m * 6 + 5, none⟩ (.slice A' (y.kids.length + 1) c')) w0.heap.size 58 v k xs) := by
  obtain ⟨p, hp, hN⟩ := h.at_.node hy
  obtain ⟨p1, p2⟩ := p
  obtain ⟨A5, c5, e5⟩ := Own.form hN.parts.kids
  have e5' : p2 = .slice A5 y.kids.length c5 := e5
  subst e5'
  have hkd : OwnF (tInt .i64) w w0.heap.size 3 (.slice A5 y.kids.length c5) y.kids.length y.kids := hN.parts.kids
  have hg1 : w.grownBy (w.drew.alloc (.cells #[.int .i64 z] 3)) (Value.slice A5 y.kids.length c5).ownBlock := grownBy.trans' (grown_drew w _) (grown_al _ _ _)
  have hkd1 : OwnF (tInt .i64) (w.drew.alloc (.cells #[.int .i64 z] 3)) w0.heap.size 3 (.slice A5 y.kids.length c5) y.kids.length y.kids := OwnF.below hkd (((Below.refl w.heap.size w).drew).alloc (Nat.le_refl _) _) (Nat.le_refl _)
  obtain ⟨v', w', hrun, hown, hg, hb, hv⟩ := run_ap1 (P := Tryd.prog) (t := 40) (ty := 40) (c := 1) (T := tInt .i64) (y := z) (cs := [.int .i64 z]) _ elemI hkd1 (fun _ h => h.elim) ⟨rfl, hz⟩ (cell_new w.drew [.int .i64 z] 3) (by omega) (by omega) (Nat.le_trans h.low.size (by simp))
  obtain ⟨A', c', rfl⟩ := Own.form hown
  have hgw := grownBy.trans' hg1 hg
  have hgs := h.at_.gs
  have hgo : (Value.slice A5 y.kids.length c5).ownBlock ≠ some g := fun e => by
    obtain ⟨cur, hcur⟩ := own_block_at h.at_.ed.row (rfl : (Value.slice (some ⟨g, 0, none⟩) out.length c).ownBlock = some g)
    exact own_ne_block (by decide) hkd hcur e
  have hbg := hgw.block g hgs.2 (fun e => hgo e.symm)
  have hbE := hgw.block E h.at_.lt (fun e => own_ne_block (by decide) hkd h.at_.box e.symm)
  have hlen : (y.kids ++ [z]).length = y.kids.length + 1 := by simp
  have hset := grown_set w' g (m * 6 + 5) (.slice A' (y.kids.length + 1) c')
  have hrow1 : OwnF tN6 w' w0.heap.size 45 (.slice (some ⟨g, 0, none⟩) out.length c) out.length (List.zipWith ndRow out ps) := ownF_kept h.at_.ed.row hgw (own_ne (by decide) h.at_.ed.row hkd)
  refine ⟨p1, A5, c5, A', c', w', hp, hN.c5, hrun, ?_, cell_same hbg hN.c5, cell_same hbE h.at_.c0, ?_, fun K cs hK hbx => ?_, fun v k xs hvx => ?_⟩
  · have := hN.free (m * 6 + 5)
    unfold World.frozen? at this ⊢
    rw [hbg]
    exact this
  · exact h.kids hy hp hgw (by rw [hlen]; exact hown) (hv.imp id fun e => ⟨_, e, by simp⟩) (by rw [hlen]; omega)
  · have h1 := (hgw.block K (Array.getElem?_eq_some_iff.1 hbx).1 (fun e => own_ne_block (by decide) hkd hbx e.symm)).trans hbx
    exact ⟨h1, (Below.heap_setCell _ _ _ _ hK).trans h1⟩
  · have h1 := ownF_kept hvx hgw (own_ne (by decide) hvx hkd)
    exact ownF_kept h1 hset (own_ne (by decide) h1 hrow1)
/-- The path, cut, and a number more. -/
theorem Bs.step6 {A6 : Option Addr} {n6 c6 : Nat} (h : Bs w0 w E g c q ps out (.slice A6 n6 c6) path) {k : Nat} (hk : k ≤ path.length) (hk2 : path.length ≤ 1000) {z : Int} (hz : (Lit.int .i64 z).wf = true) :
    ∃ A' c' w', (Builtin.append_ #[40, 40] 40 #[.slice A6 k c6, .slice (some ⟨w.heap.size, 0, none⟩) 1 1]).run Tryd.prog (w.alloc (.cells #[.int .i64 z] 3)) = .ok (.slice A' (k + 1) c') w' ∧
      Bs w0 w' E g c q ps out (.slice A' (k + 1) c') (path.take k ++ [z]) := by
  have h1 := h.next ((Below.refl w.heap.size w).alloc (Nat.le_refl _) (.cells #[.int .i64 z] 3))
  obtain ⟨A1, c1, e⟩ := h.ord.form
  simp only [Value.slice.injEq] at e
  obtain ⟨rfl, rfl, rfl⟩ := e
  have hcut : OwnF (tInt .i64) (w.alloc (.cells #[.int .i64 z] 3)) w0.heap.size 3 (.slice A6 k c6) k (path.take k) := Own.cut_to h1.ord hk
  obtain ⟨v', w', hrun, hown, hg, hb, hv⟩ := run_ap1 (P := Tryd.prog) (t := 40) (ty := 40) (c := 1) (T := tInt .i64) (y := z) (cs := [.int .i64 z]) _ elemI hcut (fun _ h => h.elim) ⟨rfl, hz⟩ (cell_new w [.int .i64 z] 3) (by omega) (by omega) (Nat.le_trans h.low.size (by simp))
  obtain ⟨A', c', rfl⟩ := Own.form hown
  have hob : (Value.slice A6 k c6).ownBlock = (Value.slice A6 path.length c6).ownBlock := by cases A6 <;> rfl
  have hne := h1.ordne
  have hl : (path.take k ++ [z]).length = k + 1 := by rw [List.length_append, List.length_take]; show min _ _ + 1 = _; omega
  have hed : Ed w' w0.heap.size (.slice (some ⟨g, 0, none⟩) out.length c) out ps := h1.at_.ed.kept_row hg (own_ne (by decide) h1.at_.ed.row hcut) fun i p hp =>
    ⟨own_ne (by decide) (h1.at_.ed.parts i _ p (List.getElem?_eq_getElem (by have := (List.getElem?_eq_some_iff.1 hp).1; rw [h1.at_.ed.len] at this; exact this)) hp).attrs hcut, Or.inr fun e => hne i p hp (hob.symm.trans e.symm)⟩
  have hblk : ∀ {j : Nat} {cs : Array Value} {fr : Nat × Nat}, (w.alloc (.cells #[.int .i64 z] 3)).heap[j]? = some (.cells cs 24 fr) → w'.heap[j]? = some (.cells cs 24 fr) := fun {j cs fr} hj =>
    (hg.block j (Array.getElem?_eq_some_iff.1 hj).1 (fun e2 => own_ne_block (by decide) hcut hj e2.symm)).trans hj
  refine ⟨A', c', w', hrun, ⟨hblk h1.at_.box, hed, h1.at_.le, h1.at_.pos, h1.at_.cap⟩, h1.low.trans hb, hblk h1.res, h.far, by rw [hl]; exact hown, fun j p hp => ?_⟩
  rcases hv with e | e
  · rw [e, hob]
    exact hne j p hp
  · rw [e]
    intro e2
    have hP := h1.at_.ed.parts j _ p (List.getElem?_eq_getElem (by have := (List.getElem?_eq_some_iff.1 hp).1; rw [h1.at_.ed.len] at this; exact this)) hp
    have := (Own.lt hP.kids _ e2.symm).2
    omega
end
end Go.Proofs.YtfgmfmkibjfknaaDoor
