/-
The walks of package dom's editor: node, element, text.
-/
import Derived.Test.YtmemadajjmmlpaaDoorEdKit
import Derived.Test.YtmemadajjmmlpaaDoorPathLaw
namespace Go.Proofs.YtmemadajjmmlpaaDoor
open Go.RowKit Go.Cl
attribute [local go_sem ↓] Go.wp_at_zero Go.wp_at_succ

/-- An editor: its box, its document. -/
structure EdAt (w : World) (E g c base : Nat) (l : List Nd) (q : Bool) (made : Int) (ps : List (Value × Value)) : Prop where
  box : w.heap[E]? = some (.cells #[.slice (some ⟨g, 0, none⟩) l.length c, .bool q, .int .i64 made] 100 (0, 0))
  ed : Ed w base (.slice (some ⟨g, 0, none⟩) l.length c) l ps
  le : base ≤ E
  pos : 0 < l.length
  cap : l.length ≤ c
section
variable {w w' : World} {E g c base : Nat} {l : List Nd} {q : Bool} {made : Int} {ps : List (Value × Value)}
theorem EdAt.next (h : EdAt w E g c base l q made ps) (hb : Below w.heap.size w w') : EdAt w' E g c base l q made ps :=
  ⟨(hb.block _ (Array.getElem?_eq_some_iff.1 h.box).1).trans h.box, h.ed.next hb, h.le, h.pos, h.cap⟩
theorem EdAt.c0 (h : EdAt w E g c base l q made ps) : w.cell? ⟨E, 0, none⟩ = some (.slice (some ⟨g, 0, none⟩) l.length c) := cell_blk h.box rfl
theorem EdAt.c1 (h : EdAt w E g c base l q made ps) : w.cell? ⟨E, 1, none⟩ = some (.bool q) := cell_blk h.box rfl
theorem EdAt.c2 (h : EdAt w E g c base l q made ps) : w.cell? ⟨E, 2, none⟩ = some (.int .i64 made) := cell_blk h.box rfl
theorem EdAt.lt (h : EdAt w E g c base l q made ps) : E < w.heap.size := (Array.getElem?_eq_some_iff.1 h.box).1
/-- One node of it. -/
structure NdIn (w : World) (g base : Nat) (m : Nat) (x : Nd) (p : Value × Value) : Prop where
  c0 : w.cell? ⟨g, m * 6, none⟩ = some (.int .i64 x.kind)
  c1 : w.cell? ⟨g, m * 6 + 1, none⟩ = some (.string x.name)
  c2 : w.cell? ⟨g, m * 6 + 2, none⟩ = some p.1
  c3 : w.cell? ⟨g, m * 6 + 3, none⟩ = some (.string x.text)
  c4 : w.cell? ⟨g, m * 6 + 4, none⟩ = some (.int .i64 x.parent)
  c5 : w.cell? ⟨g, m * 6 + 5, none⟩ = some p.2
  free : ∀ k, w.frozen? ⟨g, k, none⟩ = false
  low : base ≤ g
  lt : g < w.heap.size
  parts : Parts w base x p
theorem EdAt.node (h : EdAt w E g c base l q made ps) {m : Nat} {x : Nd} (hx : l[m]? = some x) : ∃ p, ps[m]? = some p ∧ NdIn w g base m x p := by
  obtain ⟨p, hp, hP⟩ := h.ed.part_at hx
  obtain ⟨g', c', e, hb, hg, _, hf, hc⟩ := h.ed.where_ h.pos
  simp only [Value.slice.injEq, Option.some.injEq, Addr.mk.injEq, and_true, true_and] at e
  obtain ⟨rfl, rfl⟩ := e
  have h' := hc m x p hx hp
  exact ⟨p, hp, h' 0 _ rfl, h' 1 _ rfl, h' 2 _ rfl, h' 3 _ rfl, h' 4 _ rfl, h' 5 _ rfl, hf, hb, hg, hP⟩
theorem NdIn.next {m : Nat} {x : Nd} {p : Value × Value} (h : NdIn w g base m x p) (hb : Below w.heap.size w w') : NdIn w' g base m x p :=
  have hk : ∀ j v, w.cell? ⟨g, j, none⟩ = some v → w'.cell? ⟨g, j, none⟩ = some v := fun j _ hv => (hb.cell (p := ⟨g, j, none⟩) h.lt).trans hv
  ⟨hk _ _ h.c0, hk _ _ h.c1, hk _ _ h.c2, hk _ _ h.c3, hk _ _ h.c4, hk _ _ h.c5, fun k => (hb.frozen (p := ⟨g, k, none⟩) h.lt).trans (h.free k), h.low, Nat.lt_of_lt_of_le h.lt hb.size, h.parts.below hb⟩
end
section
variable {w w1 : World} {E g c base : Nat} {l : List Nd} {q : Bool} {made : Int} {ps : List (Value × Value)}
theorem EdAt.apart (h : EdAt w E g c base l q made ps) : E ≠ g := fun e => own_ne_block (by decide) h.ed.row h.box (by rw [e]; rfl)
theorem EdAt.plain (h : EdAt w E g c base l q made ps) {i j : Nat} {x y : Nd} {p : Value × Value} {u : Value} (hx : l[i]? = some x) (hp : ps[i]? = some p) (hj : j < 6) (hr : ndRow y p = (ndRow x p).set j u) (h1 : y.attrs = x.attrs) (h2 : y.kids = x.kids) (hok : EdOk y) :
    EdAt (w.setCell ⟨g, i * 6 + j, none⟩ u) E g c base (l.set i y) q made ps := by
  have hlen : (l.set i y).length = l.length := by rw [List.length_set]
  exact ⟨by rw [hlen]; exact (Below.heap_setCell _ _ _ _ h.apart).trans h.box, by rw [hlen]; exact h.ed.plain hx hp hj hr h1 h2 hok, h.le, by rw [hlen]; exact h.pos, by rw [hlen]; exact h.cap⟩
theorem EdAt.attrs (h : EdAt w E g c base l q made ps) {i : Nat} {x : Nd} {p : Value × Value} {v : Value} {ats : List DAttr} (hx : l[i]? = some x) (hp : ps[i]? = some p) (hg : w.grownBy w1 p.1.ownBlock) (hv : OwnF tDA w1 base 91 v ats.length ats)
    (hb : v.ownBlock = p.1.ownBlock ∨ v.ownBlock = some w.heap.size) (hk : ats.length ≤ 12) : EdAt (w1.setCell ⟨g, i * 6 + 2, none⟩ v) E g c base (l.set i { x with attrs := ats }) q made (ps.set i (v, p.2)) := by
  have hlen : (l.set i { x with attrs := ats }).length = l.length := by rw [List.length_set]
  have hE1 : w1.heap[E]? = some (.cells #[.slice (some ⟨g, 0, none⟩) l.length c, .bool q, .int .i64 made] 100 (0, 0)) := (hg.block _ h.lt (fun e => own_ne_block (by decide) (h.ed.parts i x p hx hp).attrs h.box e.symm)).trans h.box
  exact ⟨by rw [hlen]; exact (Below.heap_setCell _ _ _ _ h.apart).trans hE1, by rw [hlen]; exact h.ed.attrs hx hp hg hv (hb.imp id fun e => ⟨_, e, Nat.le_refl _⟩) hk, h.le, by rw [hlen]; exact h.pos, by rw [hlen]; exact h.cap⟩
theorem EdAt.attrs0 (h : EdAt w E g c base l q made ps) {i : Nat} {x : Nd} {p : Value × Value} {ats : List DAttr} (hx : l[i]? = some x) (hp : ps[i]? = some p) (hg : w.grownBy w1 p.1.ownBlock) (hv : OwnF tDA w1 base 91 p.1 ats.length ats) (hk : ats.length ≤ 12) :
    EdAt w1 E g c base (l.set i { x with attrs := ats }) q made ps := by
  have hlen : (l.set i { x with attrs := ats }).length = l.length := by rw [List.length_set]
  have hE1 : w1.heap[E]? = some (.cells #[.slice (some ⟨g, 0, none⟩) l.length c, .bool q, .int .i64 made] 100 (0, 0)) := (hg.block _ h.lt (fun e => own_ne_block (by decide) (h.ed.parts i x p hx hp).attrs h.box e.symm)).trans h.box
  exact ⟨by rw [hlen]; exact hE1, by rw [hlen]; exact h.ed.attrs0 hx hp hg hv hk, h.le, by rw [hlen]; exact h.pos, by rw [hlen]; exact h.cap⟩
theorem EdAt.kids (h : EdAt w E g c base l q made ps) {i : Nat} {x : Nd} {p : Value × Value} {v : Value} {ks : List Int} (hx : l[i]? = some x) (hp : ps[i]? = some p) (hg : w.grownBy w1 p.2.ownBlock) (hv : OwnF (tInt .i64) w1 base 3 v ks.length ks)
    (hb : v.ownBlock = p.2.ownBlock ∨ ∃ k, v.ownBlock = some k ∧ w.heap.size ≤ k) (hk : ks.length ≤ 1000) : EdAt (w1.setCell ⟨g, i * 6 + 5, none⟩ v) E g c base (l.set i { x with kids := ks }) q made (ps.set i (p.1, v)) := by
  have hlen : (l.set i { x with kids := ks }).length = l.length := by rw [List.length_set]
  have hE1 : w1.heap[E]? = some (.cells #[.slice (some ⟨g, 0, none⟩) l.length c, .bool q, .int .i64 made] 100 (0, 0)) := (hg.block _ h.lt (fun e => own_ne_block (by decide) (h.ed.parts i x p hx hp).kids h.box e.symm)).trans h.box
  exact ⟨by rw [hlen]; exact (Below.heap_setCell _ _ _ _ h.apart).trans hE1, by rw [hlen]; exact h.ed.kids hx hp hg hv hb hk, h.le, by rw [hlen]; exact h.pos, by rw [hlen]; exact h.cap⟩
theorem EdAt.drew (h : EdAt w E g c base l q made ps) : EdAt w.drew E g c base l q made ps := h.next ((Below.refl _ _).drew)
end
/-- Where a node of a number lies. -/
def ptrN (g : Nat) (l : List Nd) (n : Int) : Value := match nodeAt l n with
  | none => .pointer none
  | some _ => .pointer (some ⟨g, n.toNat * 6, none⟩)
theorem ptr_none {g : Nat} {l : List Nd} {n : Int} (h : nodeAt l n = none) : ptrN g l n = .pointer none := by unfold ptrN; rw [h]
theorem ptr_some {g : Nat} {l : List Nd} {m : Nat} {x : Nd} (h : l[m]? = some x) : ptrN g l (m : Int) = .pointer (some ⟨g, m * 6, none⟩) := by
  unfold ptrN
  rw [nodeAt_nat, h, Int.toNat_natCast]
theorem nodeAt_none {l : List Nd} {n : Int} (h : n < 0 ∨ (l.length : Int) ≤ n) : nodeAt l n = none := by
  unfold nodeAt
  by_cases h1 : n < 0
  · rw [if_pos h1]
  · rw [if_neg h1]
    exact List.getElem?_eq_none (by omega)
theorem nodeAt_out {l : List Nd} {n : Int} (h : nodeAt l n = none) : n < 0 ∨ (l.length : Int) ≤ n := by
  unfold nodeAt at h
  by_cases h1 : n < 0
  · exact Or.inl h1
  · rw [if_neg h1] at h
    have := List.getElem?_eq_none_iff.1 h
    omega

theorem node_any (w : World) (E g c base : Nat) (l : List Nd) (q : Bool) (made : Int) (ps : List (Value × Value)) (n : Int) (h : EdAt w E g c base l q made ps) :
    Calls Tryd.prog 124 #[.pointer (some ⟨E, 0, none⟩), .int .i64 n] w fun e w' => e = .returned (ptrN g l n) ∧ w = w' := by
  have c0 := h.c0
  have hcap := h.cap
  have HPN := Lib.hid (fun n => @ptr_none g l n)
  have HPS := Lib.hid (fun m x => @ptr_some g l m x)
  have HGS := Lib.hid (fun m (h : m < l.length) => get_some h)
  have HNN := Lib.hid (fun n => @nodeAt_none l n)
  clear h
  generalize l.length = k at *
  by_cases h1 : n < 0
  · have HR := Lib.hid (HPN.out n (HNN.out n (Or.inl h1)))
    generalize ptrN g l n = v at *
    go_enter Tryd.func124, Tryd.ntmps124
    go_wp2_with fail
    go_ret
    exact ⟨by rw [HR.out]; rfl, rfl⟩
  · by_cases h2 : (k : Int) ≤ n
    · have HR := Lib.hid (HPN.out n (HNN.out n (Or.inr h2)))
      generalize ptrN g l n = v at *
      go_enter Tryd.func124, Tryd.ntmps124
      go_wp2_with fail
      go_ret
      exact ⟨by rw [HR.out]; rfl, rfl⟩
    · obtain ⟨m, rfl⟩ : ∃ m : Nat, n = (m : Int) := ⟨n.toNat, by omega⟩
      obtain ⟨x, hx⟩ := HGS.out m (by omega)
      have HR := Lib.hid (HPS.out m x hx)
      have i1 : (0 : Int) ≤ (m : Int) := by omega
      have i2 : (m : Int) < (k : Int) := by omega
      generalize ptrN g l m = v at *
      clear hx
      go_enter Tryd.func124, Tryd.ntmps124
      go_wp2_with fail
      go_ret
      exact ⟨by rw [HR.out]; rfl, rfl⟩
/-- What element says. -/
def elemS (g : Nat) (l : List Nd) (n : Int) : Value × Int := match nodeAt l n with
  | none => (.pointer none, 5)
  | some x => if x.kind ≠ 2 then (.pointer none, 7) else (.pointer (some ⟨g, n.toNat * 6, none⟩), 0)
theorem element_any (w : World) (E g c base : Nat) (l : List Nd) (q : Bool) (made : Int) (ps : List (Value × Value)) (n : Int) (h : EdAt w E g c base l q made ps) :
    Calls Tryd.prog 122 #[.pointer (some ⟨E, 0, none⟩), .int .i64 n] w fun e w' => e = .returned (.tuple #[(elemS g l n).1, .int .i64 (elemS g l n).2]) ∧ w = w' := by
  have HN := Lib.hid (node_any w E g c base l q made ps n h)
  cases hx : nodeAt l n with
  | none =>
    have HR := Lib.hid (show elemS g l n = (.pointer none, 5) from by unfold elemS; rw [hx])
    rw [ptr_none hx] at HN
    generalize elemS g l n = v at *
    clear hx h
    go_enter Tryd.func122, Tryd.ntmps122
    go_wp2_with (go_at_call 124; refine HN.out.mono ?_; rintro e w1 ⟨rfl, rfl⟩)
    go_ret2
    exact ⟨by rw [HR.out]; rfl, rfl⟩
  | some x =>
    obtain ⟨m, rfl, hm⟩ := nodeAt_some hx
    obtain ⟨p, hp, hnd⟩ := h.node hm
    have k0 := hnd.c0
    rw [ptr_some hm] at HN
    by_cases h2 : x.kind = 2
    · have HR := Lib.hid (show elemS g l m = (.pointer (some ⟨g, m * 6, none⟩), 0) from by unfold elemS; rw [hx]; simp only; rw [if_neg (by omega), Int.toNat_natCast])
      have hne : (x.kind != 2) = false := by simpa using h2
      generalize elemS g l m = v at *
      clear hx h hp hnd hm h2
      go_enter Tryd.func122, Tryd.ntmps122
      go_wp2_with (go_at_call 124; refine HN.out.mono ?_; rintro e w1 ⟨rfl, rfl⟩)
      go_ret2
      exact ⟨by rw [HR.out]; rfl, rfl⟩
    · have HR := Lib.hid (show elemS g l m = (.pointer none, 7) from by unfold elemS; rw [hx]; simp only; rw [if_pos h2])
      have hne : (x.kind != 2) = true := by simpa using h2
      generalize elemS g l m = v at *
      clear hx h hp hnd hm h2
      go_enter Tryd.func122, Tryd.ntmps122
      go_wp2_with (go_at_call 124; refine HN.out.mono ?_; rintro e w1 ⟨rfl, rfl⟩)
      go_ret2
      exact ⟨by rw [HR.out]; rfl, rfl⟩

/-- The cells of an edit. -/
def edtCells (e : Edt) (Aa : Option Addr) (na ca : Nat) (Ak : Option Addr) (nk ck : Nat) : Array Value :=
  #[.int .i64 e.do_, .int .i64 e.at_, .int .i64 e.to_, .int .i64 e.before, .string e.name, .string e.value, .int .i64 e.node.kind, .string e.node.name, .slice Aa na ca, .string e.node.text, .int .i64 e.node.parent, .slice Ak nk ck]
/-- What is known of an edit. -/
structure EdtOk (w : World) (D : Nat → Prop) (e : Edt) (Aa : Option Addr) (na ca : Nat) (Ak : Option Addr) (nk ck : Nat) : Prop where
  node : NdAt w D e.node Aa na ca Ak nk ck
  at_ : (Lit.int .i64 e.at_).wf = true
  to_ : (Lit.int .i64 e.to_).wf = true
  before : (Lit.int .i64 e.before).wf = true
  name : e.name.size ≤ 1152921504606846976
  value : e.value.size ≤ 1152921504606846976
/-- What an editing method leaves behind. -/
def EdPost (E base : Nat) (q : Bool) (err : Int) (l' : List Nd) (made' : Int) (w : World) (e : Ending) (w' : World) : Prop :=
  e = .returned (.int .i64 err) ∧ Below base w w' ∧ (err = 0 → ∃ g' c' ps', EdAt w' E g' c' base l' q made' ps')

set_option maxRecDepth 100000 in
set_option maxHeartbeats 4000000 in
theorem text_any (w : World) (E g c base : Nat) (l : List Nd) (q : Bool) (made : Int) (ps : List (Value × Value)) (e : Edt) (Aa : Option Addr) (na ca : Nat) (Ak : Option Addr) (nk ck : Nat) (h : EdAt w E g c base l q made ps) (he : EdtOk w (lt w.heap.size) e Aa na ca Ak nk ck) :
    Calls Tryd.prog 104 #[.pointer (some ⟨E, 0, none⟩), .agg (edtCells e Aa na ca Ak nk ck)] w (EdPost E base q (textErr l e.at_ e.value) (textDo l e.at_ e.value) made w) := by
  obtain ⟨w0, hw0⟩ : ∃ w0, w0 = w.alloc (.cells (edtCells e Aa na ca Ak nk ck) 59) := ⟨_, rfl⟩
  have hbx : w0.heap[w.heap.size]? = some (.cells (edtCells e Aa na ca Ak nk ck) 59 (0, 0)) := by rw [hw0]; exact heap_alloc_new w _
  have e1 : w0.cell? ⟨w.heap.size, 1, none⟩ = some (.int .i64 e.at_) := cell_blk hbx rfl
  have e5 : w0.cell? ⟨w.heap.size, 5, none⟩ = some (.string e.value) := cell_blk hbx rfl
  have hb0 : Below w.heap.size w w0 := by rw [hw0]; exact (Below.refl _ _).alloc (Nat.le_refl _) _
  have hE0 := h.next hb0
  have hbase : base ≤ w.heap.size := Nat.le_trans h.le (Nat.le_of_lt h.lt)
  have HB0 := Lib.hid (hb0.mono hbase)
  have HN := Lib.hid (node_any w0 E g c base l q made ps e.at_ hE0)
  have HE0 := Lib.hid hE0
  have hv := he.value
  have HV := Lib.hid he.value
  clear h he hb0 hbx hE0
  go_enter Tryd.func104, Tryd.ntmps104
  unfold edtCells at *
  go_upto_region 1 with fail
  rw [← hw0]
  clear hw0
  cases hx : nodeAt l e.at_ with
  | none =>
    have HR := Lib.hid (show textErr l e.at_ e.value = 5 from by unfold textErr; rw [hx])
    rw [ptr_none hx] at HN
    clear hx
    go_wp2_with (go_at_call 124; refine HN.out.mono ?_; rintro e' w1 ⟨rfl, rfl⟩)
    go_ret
    exact ⟨by rw [HR.out]; rfl, HB0.out, by rw [HR.out]; exact fun h => absurd h (by decide)⟩
  | some x =>
    obtain ⟨m, hme, hm⟩ := nodeAt_some hx
    rw [hme] at hx HN e1
    obtain ⟨p, hp, hnd⟩ := HE0.out.node hm
    have k0 := hnd.c0
    rw [ptr_some hm] at HN
    have HTE := Lib.hid (show textErr l e.at_ e.value = if x.kind ≠ 3 ∧ x.kind ≠ 4 then 7 else if 400 < e.value.size then 2 else 0 from by unfold textErr; rw [hme, hx])
    have HX := Lib.hid hm
    have HP := Lib.hid hp
    have HND := Lib.hid hnd
    have HME := Lib.hid hme
    clear hx hp hnd hm hme
    by_cases h34 : x.kind ≠ 3 ∧ x.kind ≠ 4
    · have HR := Lib.hid (HTE.out.trans (if_pos h34))
      have h3 : (x.kind != 3) = true := by simpa using h34.1
      have h4 : (x.kind != 4) = true := by simpa using h34.2
      clear h34
      go_wp2_with (go_at_call 124; refine HN.out.mono ?_; rintro e' w1 ⟨rfl, rfl⟩)
      go_ret
      exact ⟨by rw [HR.out]; rfl, HB0.out, by rw [HR.out]; exact fun h => absurd h (by decide)⟩
    · by_cases h400 : 400 < e.value.size
      · have HR := Lib.hid ((HTE.out.trans (if_neg h34)).trans (if_pos h400))
        have i4 : (400 : Int) < (e.value.size : Int) := by omega
        have h5 : x.kind = 3 ∨ x.kind = 4 := by omega
        clear h34
        rcases h5 with h5 | h5
        · rw [h5] at k0
          clear h5
          go_wp2_with (go_at_call 124; refine HN.out.mono ?_; rintro e' w1 ⟨rfl, rfl⟩)
          go_ret
          exact ⟨by rw [HR.out]; rfl, HB0.out, by rw [HR.out]; exact fun h => absurd h (by decide)⟩
        · rw [h5] at k0
          clear h5
          go_wp2_with (go_at_call 124; refine HN.out.mono ?_; rintro e' w1 ⟨rfl, rfl⟩)
          go_ret
          exact ⟨by rw [HR.out]; rfl, HB0.out, by rw [HR.out]; exact fun h => absurd h (by decide)⟩
      · have HR := Lib.hid ((HTE.out.trans (if_neg h34)).trans (if_neg h400))
        have hfin : EdAt (w0.setCell ⟨g, m * 6 + 3, none⟩ (.string e.value)) E g c base (textDo l e.at_ e.value) q made ps := by
          have hE := HE0.out
          have hed := hE.ed.plain (y := { x with text := e.value }) (j := 3) (u := .string e.value) HX.out HP.out (by decide) rfl rfl rfl ⟨HND.out.parts.ok.kind, HND.out.parts.ok.name, HV.out, HND.out.parts.ok.parent, HND.out.parts.ok.attrs, HND.out.parts.ok.kids⟩
          have hd : textDo l e.at_ e.value = l.set m { x with text := e.value } := by unfold textDo; rw [HME.out, setAt_nat HX.out]
          have hlen : (l.set m { x with text := e.value }).length = l.length := by rw [List.length_set]
          have hEg : E ≠ g := fun e' => by
            have h1 := own_ne_block (by decide) hE.ed.row hE.box
            exact h1 (by rw [e']; rfl)
          rw [hd]
          exact ⟨by rw [hlen]; exact (Below.heap_setCell _ _ _ _ hEg).trans hE.box, by rw [hlen]; exact hed, hE.le, by rw [hlen]; exact hE.pos, by rw [hlen]; exact hE.cap⟩
        have HFIN := Lib.hid hfin
        have HB := Lib.hid (HB0.out.setCell (p := ⟨g, m * 6 + 3, none⟩) HND.out.low (.string e.value))
        have f3 := HND.out.free (m * 6 + 3)
        have k3 := HND.out.c3
        have i4 : ¬ (400 : Int) < (e.value.size : Int) := by omega
        have h5 : x.kind = 3 ∨ x.kind = 4 := by omega
        clear h34 hfin
        rcases h5 with h5 | h5
        · rw [h5] at k0
          clear h5
          go_wp2_with (go_at_call 124; refine HN.out.mono ?_; rintro e' w1 ⟨rfl, rfl⟩)
          go_ret
          exact ⟨by rw [HR.out]; rfl, HB.out, fun _ => ⟨_, _, _, HFIN.out⟩⟩
        · rw [h5] at k0
          clear h5
          go_wp2_with (go_at_call 124; refine HN.out.mono ?_; rintro e' w1 ⟨rfl, rfl⟩)
          go_ret
          exact ⟨by rw [HR.out]; rfl, HB.out, fun _ => ⟨_, _, _, HFIN.out⟩⟩
end Go.Proofs.YtmemadajjmmlpaaDoor
