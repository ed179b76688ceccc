/-
The walks of package dom's editor: node, element, text.
-/
import Derived.Test.YtpbngckplbnahaaGreatDoorEdBase
import Derived.Test.YtpbngckplbnahaaGreatDoorTreeB
import Derived.Deep.RegionHeld3
import Derived.Deep.QuietTactic
import Derived.BigQuiet
namespace Go.Proofs.YtpbngckplbnahaaGreatDoor
open Go.RowKit Go.Cl
attribute [local go_sem ↓] Go.wp_at_zero Go.wp_at_succ

/-- An editor: its box, its document. -/
structure EdAt (w : World) (E g c base : Nat) (l : List Nd) (q : Bool) (made : Int) (ps : List (Value × Value)) : Prop where
  box : w.heap[E]? = some (.cells #[.slice (some ⟨g, 0, none⟩) l.length c, .bool q, .int .i64 made] 117 (0, 0))
  ed : Ed w base (.slice (some ⟨g, 0, none⟩) l.length c) l ps
  le : base ≤ E
  pos : 0 < l.length
  cap : l.length ≤ c
section
variable {w w' : World} {E g c base : Nat} {l : List Nd} {q : Bool} {made : Int} {ps : List (Value × Value)}
theorem EdAt.next (h : EdAt w E g c base l q made ps) (hb : Below w.heap.size w w') : EdAt w' E g c base l q made ps :=
  ⟨(hb.block _ (Array.getElem?_eq_some_iff.1 h.box).1).trans h.box, h.ed.next hb, h.le, h.pos, h.cap⟩
theorem EdAt.c0 (h : EdAt w E g c base l q made ps) : w.cell? ⟨E, 0, none⟩ = some (.slice (some ⟨g, 0, none⟩) l.length c) := cell_blk h.box rfl
theorem EdAt.c1 (h : EdAt w E g c base l q made ps) : w.cell? ⟨E, 1, none⟩ = some (.bool q) := cell_blk h.box rfl
theorem EdAt.c2 (h : EdAt w E g c base l q made ps) : w.cell? ⟨E, 2, none⟩ = some (.int .i64 made) := cell_blk h.box rfl
theorem EdAt.lt (h : EdAt w E g c base l q made ps) : E < w.heap.size := (Array.getElem?_eq_some_iff.1 h.box).1
/-- One node of it. -/
structure NdIn (w : World) (g base : Nat) (m : Nat) (x : Nd) (p : Value × Value) : Prop where
  c0 : w.cell? ⟨g, m * 6, none⟩ = some (.int .i64 x.kind)
  c1 : w.cell? ⟨g, m * 6 + 1, none⟩ = some (.string x.name)
  c2 : w.cell? ⟨g, m * 6 + 2, none⟩ = some p.1
  c3 : w.cell? ⟨g, m * 6 + 3, none⟩ = some (.string x.text)
  c4 : w.cell? ⟨g, m * 6 + 4, none⟩ = some (.int .i64 x.parent)
  c5 : w.cell? ⟨g, m * 6 + 5, none⟩ = some p.2
  free : ∀ k, w.frozen? ⟨g, k, none⟩ = false
  low : base ≤ g
  lt : g < w.heap.size
  parts : Parts w base x p
theorem EdAt.node (h : EdAt w E g c base l q made ps) {m : Nat} {x : Nd} (hx : l[m]? = some x) : ∃ p, ps[m]? = some p ∧ NdIn w g base m x p := by
  obtain ⟨p, hp, hP⟩ := h.ed.part_at hx
  obtain ⟨g', c', e, hb, hg, _, hf, hc⟩ := h.ed.where_ h.pos
  simp only [Value.slice.injEq, Option.some.injEq, Addr.mk.injEq, and_true, true_and] at e
  obtain ⟨rfl, rfl⟩ := e
  have h' := hc m x p hx hp
  exact ⟨p, hp, h' 0 _ rfl, h' 1 _ rfl, h' 2 _ rfl, h' 3 _ rfl, h' 4 _ rfl, h' 5 _ rfl, hf, hb, hg, hP⟩
theorem NdIn.next {m : Nat} {x : Nd} {p : Value × Value} (h : NdIn w g base m x p) (hb : Below w.heap.size w w') : NdIn w' g base m x p :=
  have hk : ∀ j v, w.cell? ⟨g, j, none⟩ = some v → w'.cell? ⟨g, j, none⟩ = some v := fun j _ hv => (hb.cell (p := ⟨g, j, none⟩) h.lt).trans hv
  ⟨hk _ _ h.c0, hk _ _ h.c1, hk _ _ h.c2, hk _ _ h.c3, hk _ _ h.c4, hk _ _ h.c5, fun k => (hb.frozen (p := ⟨g, k, none⟩) h.lt).trans (h.free k), h.low, Nat.lt_of_lt_of_le h.lt hb.size, h.parts.below hb⟩
end
section
variable {w w1 : World} {E g c base : Nat} {l : List Nd} {q : Bool} {made : Int} {ps : List (Value × Value)}
theorem EdAt.apart (h : EdAt w E g c base l q made ps) : E ≠ g := fun e => own_ne_block (by decide) h.ed.row h.box (by rw [e]; rfl)
theorem EdAt.plain (h : EdAt w E g c base l q made ps) {i j : Nat} {x y : Nd} {p : Value × Value} {u : Value} (hx : l[i]? = some x) (hp : ps[i]? = some p) (hj : j < 6) (hr : ndRow y p = (ndRow x p).set j u) (h1 : y.attrs = x.attrs) (h2 : y.kids = x.kids) (hok : EdOk y) :
    EdAt (w.setCell ⟨g, i * 6 + j, none⟩ u) E g c base (l.set i y) q made ps := by
  have hlen : (l.set i y).length = l.length := by rw [List.length_set]
  exact ⟨by rw [hlen]; exact (Below.heap_setCell _ _ _ _ h.apart).trans h.box, by rw [hlen]; exact h.ed.plain hx hp hj hr h1 h2 hok, h.le, by rw [hlen]; exact h.pos, by rw [hlen]; exact h.cap⟩
theorem EdAt.attrs (h : EdAt w E g c base l q made ps) {i : Nat} {x : Nd} {p : Value × Value} {v : Value} {ats : List DAttr} (hx : l[i]? = some x) (hp : ps[i]? = some p) (hg : w.grownBy w1 p.1.ownBlock) (hv : OwnF tDA w1 base 31 v ats.length ats)
    (hb : v.ownBlock = p.1.ownBlock ∨ v.ownBlock = some w.heap.size) (hk : ats.length ≤ 2000000000) : EdAt (w1.setCell ⟨g, i * 6 + 2, none⟩ v) E g c base (l.set i { x with attrs := ats }) q made (ps.set i (v, p.2)) := by
  have hlen : (l.set i { x with attrs := ats }).length = l.length := by rw [List.length_set]
  have hE1 : w1.heap[E]? = some (.cells #[.slice (some ⟨g, 0, none⟩) l.length c, .bool q, .int .i64 made] 117 (0, 0)) := (hg.block _ h.lt (fun e => own_ne_block (by decide) (h.ed.parts i x p hx hp).attrs h.box e.symm)).trans h.box
  exact ⟨by rw [hlen]; exact (Below.heap_setCell _ _ _ _ h.apart).trans hE1, by rw [hlen]; exact h.ed.attrs hx hp hg hv (hb.imp id fun e => ⟨_, e, Nat.le_refl _⟩) hk, h.le, by rw [hlen]; exact h.pos, by rw [hlen]; exact h.cap⟩
theorem EdAt.attrs0 (h : EdAt w E g c base l q made ps) {i : Nat} {x : Nd} {p : Value × Value} {ats : List DAttr} (hx : l[i]? = some x) (hp : ps[i]? = some p) (hg : w.grownBy w1 p.1.ownBlock) (hv : OwnF tDA w1 base 31 p.1 ats.length ats) (hk : ats.length ≤ 2000000000) :
    EdAt w1 E g c base (l.set i { x with attrs := ats }) q made ps := by
  have hlen : (l.set i { x with attrs := ats }).length = l.length := by rw [List.length_set]
  have hE1 : w1.heap[E]? = some (.cells #[.slice (some ⟨g, 0, none⟩) l.length c, .bool q, .int .i64 made] 117 (0, 0)) := (hg.block _ h.lt (fun e => own_ne_block (by decide) (h.ed.parts i x p hx hp).attrs h.box e.symm)).trans h.box
  exact ⟨by rw [hlen]; exact hE1, by rw [hlen]; exact h.ed.attrs0 hx hp hg hv hk, h.le, by rw [hlen]; exact h.pos, by rw [hlen]; exact h.cap⟩
theorem EdAt.kids (h : EdAt w E g c base l q made ps) {i : Nat} {x : Nd} {p : Value × Value} {v : Value} {ks : List Int} (hx : l[i]? = some x) (hp : ps[i]? = some p) (hg : w.grownBy w1 p.2.ownBlock) (hv : OwnF (tInt .i64) w1 base 3 v ks.length ks)
    (hb : v.ownBlock = p.2.ownBlock ∨ ∃ k, v.ownBlock = some k ∧ w.heap.size ≤ k) (hk : ks.length ≤ 1000) : EdAt (w1.setCell ⟨g, i * 6 + 5, none⟩ v) E g c base (l.set i { x with kids := ks }) q made (ps.set i (p.1, v)) := by
  have hlen : (l.set i { x with kids := ks }).length = l.length := by rw [List.length_set]
  have hE1 : w1.heap[E]? = some (.cells #[.slice (some ⟨g, 0, none⟩) l.length c, .bool q, .int .i64 made] 117 (0, 0)) := (hg.block _ h.lt (fun e => own_ne_block (by decide) (h.ed.parts i x p hx hp).kids h.box e.symm)).trans h.box
  exact ⟨by rw [hlen]; exact (Below.heap_setCell _ _ _ _ h.apart).trans hE1, by rw [hlen]; exact h.ed.kids hx hp hg hv hb hk, h.le, by rw [hlen]; exact h.pos, by rw [hlen]; exact h.cap⟩
theorem EdAt.drew (h : EdAt w E g c base l q made ps) : EdAt w.drew E g c base l q made ps := h.next ((Below.refl _ _).drew)
end
/-- Where a node of a number lies. -/
def ptrN (g : Nat) (l : List Nd) (n : Int) : Value := match nodeAt l n with
  | none => .pointer none
  | some _ => .pointer (some ⟨g, n.toNat * 6, none⟩)
theorem ptr_none {g : Nat} {l : List Nd} {n : Int} (h : nodeAt l n = none) : ptrN g l n = .pointer none := by unfold ptrN; rw [h]
theorem ptr_some {g : Nat} {l : List Nd} {m : Nat} {x : Nd} (h : l[m]? = some x) : ptrN g l (m : Int) = .pointer (some ⟨g, m * 6, none⟩) := by
  unfold ptrN
  rw [nodeAt_nat, h, Int.toNat_natCast]
theorem nodeAt_none {l : List Nd} {n : Int} (h : n < 0 ∨ (l.length : Int) ≤ n) : nodeAt l n = none := by
  unfold nodeAt
  by_cases h1 : n < 0
  · rw [if_pos h1]
  · rw [if_neg h1]
    exact List.getElem?_eq_none (by omega)
theorem nodeAt_out {l : List Nd} {n : Int} (h : nodeAt l n = none) : n < 0 ∨ (l.length : Int) ≤ n := by
  unfold nodeAt at h
  by_cases h1 : n < 0
  · exact Or.inl h1
  · rw [if_neg h1] at h
    have := List.getElem?_eq_none_iff.1 h
    omega

theorem node_any (w : World) (E g c base : Nat) (l : List Nd) (q : Bool) (made : Int) (ps : List (Value × Value)) (n : Int) (h : EdAt w E g c base l q made ps) :
    Calls Tryz.prog 181 #[.pointer (some ⟨E, 0, none⟩), .int .i64 n] w fun e w' => e = .returned (ptrN g l n) ∧ w = w' := by
  have c0 := h.c0
  have hcap := h.cap
  have HPN := Lib.hid (fun n => @ptr_none g l n)
  have HPS := Lib.hid (fun m x => @ptr_some g l m x)
  have HGS := Lib.hid (fun m (h : m < l.length) => get_some h)
  have HNN := Lib.hid (fun n => @nodeAt_none l n)
  clear h
  generalize l.length = k at *
  by_cases h1 : n < 0
  · have HR := Lib.hid (HPN.out n (HNN.out n (Or.inl h1)))
    generalize ptrN g l n = v at *
    go_enter Tryz.func181, Tryz.ntmps181
    go_wp2_with fail
    go_ret
    exact ⟨by rw [HR.out]; rfl, rfl⟩
  · by_cases h2 : (k : Int) ≤ n
    · have HR := Lib.hid (HPN.out n (HNN.out n (Or.inr h2)))
      generalize ptrN g l n = v at *
      go_enter Tryz.func181, Tryz.ntmps181
      go_wp2_with fail
      go_ret
      exact ⟨by rw [HR.out]; rfl, rfl⟩
    · obtain ⟨m, rfl⟩ : ∃ m : Nat, n = (m : Int) := ⟨n.toNat, by omega⟩
      obtain ⟨x, hx⟩ := HGS.out m (by omega)
      have HR := Lib.hid (HPS.out m x hx)
      have i1 : (0 : Int) ≤ (m : Int) := by omega
      have i2 : (m : Int) < (k : Int) := by omega
      generalize ptrN g l m = v at *
      clear hx
      go_enter Tryz.func181, Tryz.ntmps181
      go_wp2_with fail
      go_ret
      exact ⟨by rw [HR.out]; rfl, rfl⟩
/-- What element says. -/
def elemS (g : Nat) (l : List Nd) (n : Int) : Value × Int := match nodeAt l n with
  | none => (.pointer none, 5)
  | some x => if x.kind ≠ 2 then (.pointer none, 7) else (.pointer (some ⟨g, n.toNat * 6, none⟩), 0)
theorem element_any (w : World) (E g c base : Nat) (l : List Nd) (q : Bool) (made : Int) (ps : List (Value × Value)) (n : Int) (h : EdAt w E g c base l q made ps) :
    Calls Tryz.prog 179 #[.pointer (some ⟨E, 0, none⟩), .int .i64 n] w fun e w' => e = .returned (.tuple #[(elemS g l n).1, .int .i64 (elemS g l n).2]) ∧ w = w' := by
  have HN := Lib.hid (node_any w E g c base l q made ps n h)
  cases hx : nodeAt l n with
  | none =>
    have HR := Lib.hid (show elemS g l n = (.pointer none, 5) from by unfold elemS; rw [hx])
    rw [ptr_none hx] at HN
    generalize elemS g l n = v at *
    clear hx h
    go_enter Tryz.func179, Tryz.ntmps179
    go_wp2_with (go_at_call 181; refine HN.out.mono ?_; rintro e w1 ⟨rfl, rfl⟩)
    go_ret2
    exact ⟨by rw [HR.out]; rfl, rfl⟩
  | some x =>
    obtain ⟨m, rfl, hm⟩ := nodeAt_some hx
    obtain ⟨p, hp, hnd⟩ := h.node hm
    have k0 := hnd.c0
    rw [ptr_some hm] at HN
    by_cases h2 : x.kind = 2
    · have HR := Lib.hid (show elemS g l m = (.pointer (some ⟨g, m * 6, none⟩), 0) from by unfold elemS; rw [hx]; simp only; rw [if_neg (by omega), Int.toNat_natCast])
      have hne : (x.kind != 2) = false := by simpa using h2
      generalize elemS g l m = v at *
      clear hx h hp hnd hm h2
      go_enter Tryz.func179, Tryz.ntmps179
      go_wp2_with (go_at_call 181; refine HN.out.mono ?_; rintro e w1 ⟨rfl, rfl⟩)
      go_ret2
      exact ⟨by rw [HR.out]; rfl, rfl⟩
    · have HR := Lib.hid (show elemS g l m = (.pointer none, 7) from by unfold elemS; rw [hx]; simp only; rw [if_pos h2])
      have hne : (x.kind != 2) = true := by simpa using h2
      generalize elemS g l m = v at *
      clear hx h hp hnd hm h2
      go_enter Tryz.func179, Tryz.ntmps179
      go_wp2_with (go_at_call 181; refine HN.out.mono ?_; rintro e w1 ⟨rfl, rfl⟩)
      go_ret2
      exact ⟨by rw [HR.out]; rfl, rfl⟩

/-- The cells of an edit. -/
def edtCells (e : Edt) (Aa : Option Addr) (na ca : Nat) (Ak : Option Addr) (nk ck : Nat) : Array Value :=
  #[.int .i64 e.do_, .int .i64 e.at_, .int .i64 e.to_, .int .i64 e.before, .string e.name, .string e.value, .int .i64 e.node.kind, .string e.node.name, .slice Aa na ca, .string e.node.text, .int .i64 e.node.parent, .slice Ak nk ck]
/-- What is known of an edit. -/
structure EdtOk (w : World) (D : Nat → Prop) (e : Edt) (Aa : Option Addr) (na ca : Nat) (Ak : Option Addr) (nk ck : Nat) : Prop where
  node : NdAt w D e.node Aa na ca Ak nk ck
  at_ : (Lit.int .i64 e.at_).wf = true
  to_ : (Lit.int .i64 e.to_).wf = true
  before : (Lit.int .i64 e.before).wf = true
  name : e.name.size ≤ 1152921504606846976
  value : e.value.size ≤ 1152921504606846976
/-- What an editing method leaves behind. -/
def EdPost (E base : Nat) (q : Bool) (err : Int) (l' : List Nd) (made' : Int) (w : World) (e : Ending) (w' : World) : Prop :=
  e = .returned (.int .i64 err) ∧ Below base w w' ∧ (err = 0 → ∃ g' c' ps', EdAt w' E g' c' base l' q made' ps')

set_option maxRecDepth 100000 in
set_option maxHeartbeats 4000000 in
theorem text_any (w : World) (E g c base : Nat) (l : List Nd) (q : Bool) (made : Int) (ps : List (Value × Value)) (e : Edt) (Aa : Option Addr) (na ca : Nat) (Ak : Option Addr) (nk ck : Nat) (h : EdAt w E g c base l q made ps) (he : EdtOk w (lt w.heap.size) e Aa na ca Ak nk ck) :
    Calls Tryz.prog 141 #[.pointer (some ⟨E, 0, none⟩), .agg (edtCells e Aa na ca Ak nk ck)] w (EdPost E base q (textErr l e.at_ e.value) (textDo l e.at_ e.value) made w) := by
  obtain ⟨w0, hw0⟩ : ∃ w0, w0 = w.alloc (.cells (edtCells e Aa na ca Ak nk ck) 64) := ⟨_, rfl⟩
  have hbx : w0.heap[w.heap.size]? = some (.cells (edtCells e Aa na ca Ak nk ck) 64 (0, 0)) := by rw [hw0]; exact heap_alloc_new w _
  have e1 : w0.cell? ⟨w.heap.size, 1, none⟩ = some (.int .i64 e.at_) := cell_blk hbx rfl
  have e5 : w0.cell? ⟨w.heap.size, 5, none⟩ = some (.string e.value) := cell_blk hbx rfl
  have hb0 : Below w.heap.size w w0 := by rw [hw0]; exact (Below.refl _ _).alloc (Nat.le_refl _) _
  have hE0 := h.next hb0
  have hbase : base ≤ w.heap.size := Nat.le_trans h.le (Nat.le_of_lt h.lt)
  have HB0 := Lib.hid (hb0.mono hbase)
  have HN := Lib.hid (node_any w0 E g c base l q made ps e.at_ hE0)
  have HE0 := Lib.hid hE0
  have hv := he.value
  have HV := Lib.hid he.value
  clear h he hb0 hbx hE0
  go_enter Tryz.func141, Tryz.ntmps141
  unfold edtCells at *
  go_upto_region 1 with fail
  rw [← hw0]
  clear hw0
  cases hx : nodeAt l e.at_ with
  | none =>
    have HR := Lib.hid (show textErr l e.at_ e.value = 5 from by unfold textErr; rw [hx])
    rw [ptr_none hx] at HN
    clear hx
    go_wp2_with (go_at_call 181; refine HN.out.mono ?_; rintro e' w1 ⟨rfl, rfl⟩)
    go_ret
    exact ⟨by rw [HR.out]; rfl, HB0.out, by rw [HR.out]; exact fun h => absurd h (by decide)⟩
  | some x =>
    obtain ⟨m, hme, hm⟩ := nodeAt_some hx
    rw [hme] at hx HN e1
    obtain ⟨p, hp, hnd⟩ := HE0.out.node hm
    have k0 := hnd.c0
    rw [ptr_some hm] at HN
    have HTE := Lib.hid (show textErr l e.at_ e.value = if x.kind ≠ 3 ∧ x.kind ≠ 4 then 7 else if 400 < e.value.size then 2 else 0 from by unfold textErr; rw [hme, hx])
    have HX := Lib.hid hm
    have HP := Lib.hid hp
    have HND := Lib.hid hnd
    have HME := Lib.hid hme
    clear hx hp hnd hm hme
    by_cases h34 : x.kind ≠ 3 ∧ x.kind ≠ 4
    · have HR := Lib.hid (HTE.out.trans (if_pos h34))
      have h3 : (x.kind != 3) = true := by simpa using h34.1
      have h4 : (x.kind != 4) = true := by simpa using h34.2
      clear h34
      go_wp2_with (go_at_call 181; refine HN.out.mono ?_; rintro e' w1 ⟨rfl, rfl⟩)
      go_ret
      exact ⟨by rw [HR.out]; rfl, HB0.out, by rw [HR.out]; exact fun h => absurd h (by decide)⟩
    · by_cases h400 : 400 < e.value.size
      · have HR := Lib.hid ((HTE.out.trans (if_neg h34)).trans (if_pos h400))
        have i4 : (400 : Int) < (e.value.size : Int) := by omega
        have h5 : x.kind = 3 ∨ x.kind = 4 := by omega
        clear h34
        rcases h5 with h5 | h5
        · rw [h5] at k0
          clear h5
          go_wp2_with (go_at_call 181; refine HN.out.mono ?_; rintro e' w1 ⟨rfl, rfl⟩)
          go_ret
          exact ⟨by rw [HR.out]; rfl, HB0.out, by rw [HR.out]; exact fun h => absurd h (by decide)⟩
        · rw [h5] at k0
          clear h5
          go_wp2_with (go_at_call 181; refine HN.out.mono ?_; rintro e' w1 ⟨rfl, rfl⟩)
          go_ret
          exact ⟨by rw [HR.out]; rfl, HB0.out, by rw [HR.out]; exact fun h => absurd h (by decide)⟩
      · have HR := Lib.hid ((HTE.out.trans (if_neg h34)).trans (if_neg h400))
        have hfin : EdAt (w0.setCell ⟨g, m * 6 + 3, none⟩ (.string e.value)) E g c base (textDo l e.at_ e.value) q made ps := by
          have hE := HE0.out
          have hed := hE.ed.plain (y := { x with text := e.value }) (j := 3) (u := .string e.value) HX.out HP.out (by decide) rfl rfl rfl ⟨HND.out.parts.ok.kind, HND.out.parts.ok.name, HV.out, HND.out.parts.ok.parent, HND.out.parts.ok.attrs, HND.out.parts.ok.kids⟩
          have hd : textDo l e.at_ e.value = l.set m { x with text := e.value } := by unfold textDo; rw [HME.out, setAt_nat HX.out]
          have hlen : (l.set m { x with text := e.value }).length = l.length := by rw [List.length_set]
          have hEg : E ≠ g := fun e' => by
            have h1 := own_ne_block (by decide) hE.ed.row hE.box
            exact h1 (by rw [e']; rfl)
          rw [hd]
          exact ⟨by rw [hlen]; exact (Below.heap_setCell _ _ _ _ hEg).trans hE.box, by rw [hlen]; exact hed, hE.le, by rw [hlen]; exact hE.pos, by rw [hlen]; exact hE.cap⟩
        have HFIN := Lib.hid hfin
        have HB := Lib.hid (HB0.out.setCell (p := ⟨g, m * 6 + 3, none⟩) HND.out.low (.string e.value))
        have f3 := HND.out.free (m * 6 + 3)
        have k3 := HND.out.c3
        have i4 : ¬ (400 : Int) < (e.value.size : Int) := by omega
        have h5 : x.kind = 3 ∨ x.kind = 4 := by omega
        clear h34 hfin
        rcases h5 with h5 | h5
        · rw [h5] at k0
          clear h5
          go_wp2_with (go_at_call 181; refine HN.out.mono ?_; rintro e' w1 ⟨rfl, rfl⟩)
          go_ret
          exact ⟨by rw [HR.out]; rfl, HB.out, fun _ => ⟨_, _, _, HFIN.out⟩⟩
        · rw [h5] at k0
          clear h5
          go_wp2_with (go_at_call 181; refine HN.out.mono ?_; rintro e' w1 ⟨rfl, rfl⟩)
          go_ret
          exact ⟨by rw [HR.out]; rfl, HB.out, fun _ => ⟨_, _, _, HFIN.out⟩⟩
end Go.Proofs.YtpbngckplbnahaaGreatDoor

/-
The walks of package dom's editor: attr, drop.
-/
namespace Go.Proofs.YtpbngckplbnahaaGreatDoor
open Go.RowKit Go.Cl
attribute [local go_sem ↓] Go.wp_at_zero Go.wp_at_succ

/-- An editor and an edit in its box, in a later world. -/
structure EB (w : World) (E g c base : Nat) (l : List Nd) (q : Bool) (made : Int) (ps : List (Value × Value)) (k : Nat) (cells : Array Value) (B : Nat) : Prop where
  at_ : EdAt w E g c base l q made ps
  box : w.heap[k]? = some (.cells cells 64 (0, 0))
  low : base ≤ B
  le : B ≤ k
section
variable {w w' : World} {E g c base : Nat} {l : List Nd} {q : Bool} {made : Int} {ps : List (Value × Value)} {k : Nat} {cells : Array Value} {B : Nat}
theorem EB.next (h : EB w E g c base l q made ps k cells B) (hb : Below w.heap.size w w') : EB w' E g c base l q made ps k cells B :=
  ⟨h.at_.next hb, (hb.block _ (Array.getElem?_eq_some_iff.1 h.box).1).trans h.box, h.low, h.le⟩
theorem EB.lt (h : EB w E g c base l q made ps k cells B) : k < w.heap.size := (Array.getElem?_eq_some_iff.1 h.box).1
theorem EB.cell (h : EB w E g c base l q made ps k cells B) (i : Nat) {v : Value} (hv : cells[i]? = some v) : w.cell? ⟨k, i, none⟩ = some v := cell_blk h.box hv
end
theorem eb_of {w : World} {E g c base : Nat} {l : List Nd} {q : Bool} {made : Int} {ps : List (Value × Value)} (h : EdAt w E g c base l q made ps) (cells : Array Value) :
    EB (w.alloc (.cells cells 64)) E g c base l q made ps w.heap.size cells w.heap.size ∧ Below base w (w.alloc (.cells cells 64)) :=
  have hb := (Below.refl _ w).alloc (Nat.le_refl _) (.cells cells 64)
  ⟨⟨h.next hb, heap_alloc_new w _, Nat.le_trans h.le (Nat.le_of_lt h.lt), Nat.le_refl _⟩, hb.mono (Nat.le_trans h.le (Nat.le_of_lt h.lt))⟩
theorem elem_cases {g : Nat} {l : List Nd} {n : Int} : (nodeAt l n = none ∧ elemS g l n = (.pointer none, 5)) ∨ ∃ (m : Nat) (x : Nd), n = (m : Int) ∧ l[m]? = some x ∧ ((x.kind ≠ 2 ∧ elemS g l n = (.pointer none, 7)) ∨ (x.kind = 2 ∧ elemS g l n = (.pointer (some ⟨g, m * 6, none⟩), 0))) := by
  unfold elemS
  cases hx : nodeAt l n with
  | none => exact Or.inl ⟨rfl, rfl⟩
  | some x =>
    obtain ⟨m, rfl, hm⟩ := nodeAt_some hx
    refine Or.inr ⟨m, x, rfl, hm, ?_⟩
    by_cases h : x.kind = 2
    · exact Or.inr ⟨h, by simp only; rw [if_neg (by omega), Int.toNat_natCast]⟩
    · exact Or.inl ⟨h, by simp only; rw [if_pos h]⟩

set_option maxRecDepth 100000 in
set_option maxHeartbeats 4000000 in
theorem drop_any (w : World) (E g c base : Nat) (l : List Nd) (q : Bool) (made : Int) (ps : List (Value × Value)) (e : Edt) (Aa : Option Addr) (na ca : Nat) (Ak : Option Addr) (nk ck : Nat) (h : EdAt w E g c base l q made ps) :
    Calls Tryz.prog 140 #[.pointer (some ⟨E, 0, none⟩), .agg (edtCells e Aa na ca Ak nk ck)] w (EdPost E base q (dropErr l e.at_ e.name) (dropDo l e.at_ e.name) made w) := by
  obtain ⟨w0, hw0⟩ : ∃ w0, w0 = w.alloc (.cells (edtCells e Aa na ca Ak nk ck) 64) := ⟨_, rfl⟩
  have hk := eb_of h (edtCells e Aa na ca Ak nk ck)
  rw [← hw0] at hk
  obtain ⟨hEB, hb0⟩ := hk
  have e1 := hEB.cell 1 (v := .int .i64 e.at_) rfl
  have e4 := hEB.cell 4 (v := .string e.name) rfl
  have HB0 := Lib.hid hb0
  have HEB := Lib.hid hEB
  have HE := Lib.hid (element_any w0 E g c base l q made ps e.at_ hEB.at_)
  clear h hb0 hEB
  go_enter Tryz.func140, Tryz.ntmps140
  unfold edtCells at *
  go_upto_region 1 with fail
  rw [← hw0]
  clear hw0
  rcases @elem_cases g l e.at_ with ⟨hx, hel⟩ | ⟨m, x, hme, hm, hx⟩
  · have HR := Lib.hid (show dropErr l e.at_ e.name = 5 from by unfold dropErr; rw [hx])
    rw [hel] at HE
    clear hx hel
    go_wp2_with (go_at_call 179; refine HE.out.mono ?_; rintro e' w1 ⟨rfl, rfl⟩)
    go_ret
    exact ⟨by rw [HR.out]; rfl, HB0.out, by rw [HR.out]; exact fun h => absurd h (by decide)⟩
  · have HDE := Lib.hid (show dropErr l e.at_ e.name = if x.kind ≠ 2 then 7 else if findA x.attrs e.name < 0 then 5 else 0 from by unfold dropErr; rw [hme, nodeAt_nat, hm])
    have HDO := Lib.hid (show dropDo l e.at_ e.name = l.set m { x with attrs := x.attrs.eraseIdx (findA x.attrs e.name).toNat } from by unfold dropDo; rw [hme, setAt_nat hm])
    rcases hx with ⟨h2, hel⟩ | ⟨h2, hel⟩
    · have HR := Lib.hid (HDE.out.trans (if_pos h2))
      rw [hel] at HE
      clear hel h2 hm hme
      go_wp2_with (go_at_call 179; refine HE.out.mono ?_; rintro e' w1 ⟨rfl, rfl⟩)
      go_ret
      exact ⟨by rw [HR.out]; rfl, HB0.out, by rw [HR.out]; exact fun h => absurd h (by decide)⟩
    · have HDE2 := Lib.hid (HDE.out.trans (if_neg (by omega)))
      rw [hel] at HE
      obtain ⟨p, hp, hnd⟩ := HEB.out.at_.node hm
      obtain ⟨A1, c1, hp1, sl1⟩ := OwnF.sl hnd.parts.attrs (by decide) (by have := hnd.parts.ok.attrs; show x.attrs.length * 32 ≤ _; omega)
      have HF := Lib.hid (find_dom A1 x.attrs.length c1 x.attrs e.name w0.drew w0.heap.size sl1.drew (Nat.le_refl _))
      have k2 := hnd.c2
      rw [hp1] at k2
      have HM := Lib.hid hm
      have HP := Lib.hid hp
      have HP1 := Lib.hid hp1
      have HND := Lib.hid hnd
      clear hel h2 hm hme hp hnd hp1 sl1 HDE
      go_upto_region 4 with (go_at_call 179; refine HE.out.mono ?_; rintro e' w1 ⟨rfl, rfl⟩)
      go_region_held3 (fun w' => w'.cell? ⟨w.heap.size, 4, none⟩ = some (.string e.name) ∧ w'.cell? ⟨g, m * 6 + 2, none⟩ = some (.slice A1 x.attrs.length c1)) (first | go_keep | assumption)
        ((go_at_call 56; refine HF.out.mono ?_; rintro e' w2 ⟨rfl, hb2⟩; have k22 : w2.cell? ⟨g, m * 6 + 2, none⟩ = some (.slice A1 x.attrs.length c1) := (hb2.cell (p := ⟨g, m * 6 + 2, none⟩) HND.out.lt).trans k2; have e24 : w2.cell? ⟨w.heap.size, 4, none⟩ = some (.string e.name) := (hb2.cell (p := ⟨w.heap.size, 4, none⟩) HEB.out.lt).trans e4))
      have hb02 : Below w0.heap.size w0 w2 := ((Below.refl _ w0).drew).trans hb2
      have HB2 := Lib.hid (HB0.out.trans (hb02.mono (Nat.le_trans HEB.out.low (Nat.le_trans HEB.out.le (Nat.le_of_lt HEB.out.lt)))))
      have HE2 := Lib.hid (HEB.out.next hb02)
      have HN2 := Lib.hid (HND.out.next hb02)
      have k2' := HN2.out.c2
      rw [HP1.out] at k2'
      clear hb2 hb02 k2 k22 e24 HF HE e1 e4
      by_cases hf : findA x.attrs e.name < 0
      · have HR := Lib.hid (HDE2.out.trans (if_pos hf))
        generalize findA x.attrs e.name = f at *
        go_wp2_with fail
        go_ret
        exact ⟨by rw [HR.out]; rfl, HB2.out, by rw [HR.out]; exact fun h => absurd h (by decide)⟩
      · have HR := Lib.hid (HDE2.out.trans (if_neg hf))
        obtain ⟨i, a, hfi, hai, _⟩ := findA_nat (ats := x.attrs) (nm := e.name) (by omega)
        have hil := (List.getElem?_eq_some_iff.1 hai).1
        rw [hfi] at hf HDO ⊢
        rw [Int.toNat_natCast] at HDO
        have ho2 := HN2.out.parts.attrs
        rw [HP1.out] at ho2
        obtain ⟨ga, cells, hA1, hga, hgl, hrow, hcell, hfz⟩ := Own.block ho2 (by omega)
        subst hA1
        have HDEL := Lib.hid (deleteDA ga x.attrs.length c1 i x.attrs w2 base (fun _ => False) ho2 (fun _ h => h.elim) hil (by have := HN2.out.parts.ok.attrs; omega))
        have HOB := Lib.hid (Own.lt ho2)
        have wz : IntKind.i64.wrap ((i : Int) + 1) = (i : Int) + 1 := IntWalk.i64_in _ (by have := HN2.out.parts.ok.attrs; omega)
        have f2 := HN2.out.free (m * 6 + 2)
        have hgg : g ≠ ga := fun e' => by
          have h1 := own_ne_block (e' := 31) (by decide) HE2.out.at_.ed.row (own_block_at ho2 rfl).choose_spec
          exact h1 (by rw [e']; rfl)
        have HGG := Lib.hid hgg
        clear ho2 hrow hcell hfz hai hfi
        go_wp2_with (go_at_call 180; refine HDEL.out.mono ?_; rintro e' w3 ⟨rfl, hown3, hg3⟩; have k3 : w3.cell? ⟨g, m * 6 + 2, none⟩ = some (.slice (some ⟨ga, 0, none⟩) x.attrs.length c1) := (World.cell?_of_block (hg3.block g HN2.out.lt (fun e' => HGG.out (by simpa using e')))).trans k2'; have f3 : w3.frozen? ⟨g, m * 6 + 2, none⟩ = false := by (have hbk := hg3.block g HN2.out.lt (fun e' => HGG.out (by simpa using e')); unfold World.frozen? at f2 ⊢; rw [hbk]; exact f2))
        go_ret
        have hlen : (x.attrs.eraseIdx i).length = x.attrs.length - 1 := by rw [List.length_eraseIdx, if_pos hil]
        refine ⟨by rw [HR.out]; rfl, ?_, fun _ => ⟨g, c, ps.set m (.slice (some ⟨ga, 0, none⟩) (x.attrs.length - 1) c1, p.2), ?_⟩⟩
        · exact (HB2.out.grown hg3 (by have := HB2.out.size; have := HE2.out.lt; have := HE2.out.low; have := HE2.out.le; omega) (fun k hk => by simp at hk; omega)).setCell (p := ⟨g, m * 6 + 2, none⟩) HN2.out.low _
        · rw [HDO.out]
          exact HE2.out.at_.attrs HM.out HP.out (by rw [HP1.out]; exact hg3) (by rw [hlen]; exact hown3) (Or.inl (by rw [HP1.out]; rfl)) (by rw [hlen]; have := HN2.out.parts.ok.attrs; omega)
end Go.Proofs.YtpbngckplbnahaaGreatDoor

/-
The walks of package dom's editor: attr.
-/
namespace Go.Proofs.YtpbngckplbnahaaGreatDoor
open Go.RowKit Go.Cl
attribute [local go_sem ↓] Go.wp_at_zero Go.wp_at_succ

/-- An attribute's value is set in place. -/
theorem EdAt.value {w : World} {E g c base : Nat} {l : List Nd} {q : Bool} {made : Int} {ps : List (Value × Value)} (h : EdAt w E g c base l q made ps) {m i ga n c1 : Nat} {x : Nd} {p : Value × Value} {a : DAttr} {v : ByteArray} (hx : l[m]? = some x) (hp : ps[m]? = some p) (ha : x.attrs[i]? = some a)
    (hpa : p.1 = .slice (some ⟨ga, 0, none⟩) n c1) (hv : v.size ≤ 1152921504606846976) : EdAt (w.setCell ⟨ga, i * 2 + 1, none⟩ (.string v)) E g c base (l.set m { x with attrs := x.attrs.set i (a.1, v) }) q made ps := by
  have hP := h.ed.parts m x p hx hp
  have ho := hP.attrs
  rw [hpa] at ho
  have hn : n = x.attrs.length := by
    obtain ⟨_, h3, _⟩ := ho
    rcases h3.2 with ⟨hv, _⟩ | ⟨g', cap, cur, hv, _⟩
    · cases hv
    · injection hv
  subst hn
  have hst : Own tDA (w.setCell ⟨ga, i * 2 + 1, none⟩ (.string v)) base 31 (fun _ => False) (.slice (some ⟨ga, 0, none⟩) x.attrs.length c1) x.attrs.length (x.attrs.set i (a.1, v)) :=
    Own.stored (T := tDA) ho (fun _ h => h.elim) ha (j := 1) (by decide) (fun cs hcs => by
      obtain ⟨_, _, rfl, ⟨rfl, h1⟩, rfl, h2⟩ := hcs
      exact ⟨[.string a.1], [.string v], rfl, ⟨rfl, h1⟩, rfl, hv⟩)
  have hls : (x.attrs.set i (a.1, v)).length = x.attrs.length := by rw [List.length_set]
  refine h.attrs0 hx hp (by rw [hpa]; exact grown_set w ga (i * 2 + 1) (.string v)) (by rw [hls, hpa]; exact hst) (by rw [hls]; exact hP.ok.attrs)
theorem set_last {α : Type} (l : List α) (a b : α) : (l ++ [a]).set l.length b = l ++ [b] := by
  rw [List.set_append, if_neg (by omega), Nat.sub_self]
  rfl
theorem app_last {α : Type} (l : List α) (a : α) : (l ++ [a])[l.length]? = some a := by
  rw [List.getElem?_append_right (Nat.le_refl _), Nat.sub_self]
  rfl

theorem elemDA2 : ElemOf Tryz.prog 24 31 tDA.size 32 := elemDA
/-- What is of another type than a row stays, whatever the row becomes. -/
theorem keep_block {α : Type} {T : Ty α} {w w' : World} {base : Nat} {e e' : TypeId} {v : Value} {n k : Nat} {xs : List α} {cs : Array Value} {fr : Nat × Nat} (h : OwnF T w base e v n xs) (hg : w.grownBy w' v.ownBlock) (he : e ≠ e') (hk : w.heap[k]? = some (.cells cs e' fr)) : w'.heap[k]? = some (.cells cs e' fr) :=
  (hg.block k (Array.getElem?_eq_some_iff.1 hk).1 (fun e2 => own_ne_block he h hk e2.symm)).trans hk

theorem cell_same {w w' : World} {g i : Nat} {v : Value} (h : w'.heap[g]? = w.heap[g]?) (hv : w.cell? ⟨g, i, none⟩ = some v) : w'.cell? ⟨g, i, none⟩ = some v :=
  (World.cell?_of_block (a := ⟨g, i, none⟩) h).trans hv

set_option maxRecDepth 100000 in
set_option maxHeartbeats 8000000 in
theorem attr_any (w : World) (E g c base : Nat) (l : List Nd) (q : Bool) (made : Int) (ps : List (Value × Value)) (e : Edt) (Aa : Option Addr) (na ca : Nat) (Ak : Option Addr) (nk ck : Nat) (h : EdAt w E g c base l q made ps) (h12 : ∀ (i : Nat) x, l[i]? = some x → x.attrs.length ≤ 12) (hnm : e.name.size ≤ 1152921504606846976) (hvl : e.value.size ≤ 1152921504606846976) :
    Calls Tryz.prog 139 #[.pointer (some ⟨E, 0, none⟩), .agg (edtCells e Aa na ca Ak nk ck)] w (EdPost E base q (attrErr l e.at_ e.name e.value) (attrDo l e.at_ e.name e.value) made w) := by
  obtain ⟨w0, hw0⟩ : ∃ w0, w0 = w.alloc (.cells (edtCells e Aa na ca Ak nk ck) 64) := ⟨_, rfl⟩
  have hk := eb_of h (edtCells e Aa na ca Ak nk ck)
  rw [← hw0] at hk
  obtain ⟨hEB, hb0⟩ := hk
  have e1 := hEB.cell 1 (v := .int .i64 e.at_) rfl
  have e4 := hEB.cell 4 (v := .string e.name) rfl
  have HB0 := Lib.hid hb0
  have H12 := Lib.hid h12
  clear h12
  have HEB := Lib.hid hEB
  have HE := Lib.hid (element_any w0 E g c base l q made ps e.at_ hEB.at_)
  have HAN := Lib.hid (fun W => attrName_any e.name W hnm)
  clear h hb0 hEB
  have HC4 := Lib.hid (show (edtCells e Aa na ca Ak nk ck)[4]? = some (.string e.name) from rfl)
  have HC5 := Lib.hid (show (edtCells e Aa na ca Ak nk ck)[5]? = some (.string e.value) from rfl)
  go_enter Tryz.func139, Tryz.ntmps139
  unfold edtCells at *
  go_upto_region 1 with fail
  rw [← hw0]
  clear hw0
  rcases @elem_cases g l e.at_ with ⟨hx, hel⟩ | ⟨m, x, hme, hm, hx⟩
  · have HR := Lib.hid (show attrErr l e.at_ e.name e.value = 5 from by unfold attrErr; rw [hx])
    rw [hel] at HE
    clear hx hel
    go_wp2_with (go_at_call 179; refine HE.out.mono ?_; rintro e' w1 ⟨rfl, rfl⟩)
    go_ret
    exact ⟨by rw [HR.out]; rfl, HB0.out, by rw [HR.out]; exact fun h => absurd h (by decide)⟩
  · have HDE := Lib.hid (show attrErr l e.at_ e.name e.value = if x.kind ≠ 2 then 7 else if namedR e.name attrB = false then 3 else if 400 < e.value.size ∨ (findA x.attrs e.name < 0 ∧ x.attrs.length = 12) then 2 else 0 from by unfold attrErr; rw [hme, nodeAt_nat, hm])
    have HDO := Lib.hid (show attrDo l e.at_ e.name e.value = l.set m { x with attrs := attrPut x.attrs e.name e.value } from by unfold attrDo; rw [hme, setAt_nat hm])
    rcases hx with ⟨h2, hel⟩ | ⟨h2, hel⟩
    · have HR := Lib.hid (HDE.out.trans (if_pos h2))
      rw [hel] at HE
      clear hel h2 hm hme
      go_wp2_with (go_at_call 179; refine HE.out.mono ?_; rintro e' w1 ⟨rfl, rfl⟩)
      go_ret
      exact ⟨by rw [HR.out]; rfl, HB0.out, by rw [HR.out]; exact fun h => absurd h (by decide)⟩
    · have HDE2 := Lib.hid (HDE.out.trans (if_neg (by omega)))
      rw [hel] at HE
      obtain ⟨p, hp, hnd⟩ := HEB.out.at_.node hm
      obtain ⟨A1, c1, hp1, sl1⟩ := OwnF.sl hnd.parts.attrs (by decide) (by have := hnd.parts.ok.attrs; show x.attrs.length * 32 ≤ _; omega)
      have HF := Lib.hid (find_dom A1 x.attrs.length c1 x.attrs e.name w0.drew w0.heap.size sl1.drew (Nat.le_refl _))
      have k2 := hnd.c2
      rw [hp1] at k2
      have HM := Lib.hid hm
      have HP := Lib.hid hp
      have HP1 := Lib.hid hp1
      have HND := Lib.hid hnd
      clear hel h2 hm hme hp hnd hp1 sl1 HDE
      go_upto_region 4 with (go_at_call 179; refine HE.out.mono ?_; rintro e' w1 ⟨rfl, rfl⟩)
      go_region_held3 (fun w' => w'.cell? ⟨w.heap.size, 4, none⟩ = some (.string e.name) ∧ w'.cell? ⟨g, m * 6 + 2, none⟩ = some (.slice A1 x.attrs.length c1)) (first | go_keep | assumption)
        ((go_at_call 56; refine HF.out.mono ?_; rintro e' w2 ⟨rfl, hb2⟩; have k22 : w2.cell? ⟨g, m * 6 + 2, none⟩ = some (.slice A1 x.attrs.length c1) := (hb2.cell (p := ⟨g, m * 6 + 2, none⟩) HND.out.lt).trans k2; have e24 : w2.cell? ⟨w.heap.size, 4, none⟩ = some (.string e.name) := (hb2.cell (p := ⟨w.heap.size, 4, none⟩) HEB.out.lt).trans e4))
      have hb02 : Below w0.heap.size w0 w2 := ((Below.refl _ w0).drew).trans hb2
      have HBW : Hid (base ≤ w0.heap.size) := Nat.le_trans HEB.out.low (Nat.le_trans HEB.out.le (Nat.le_of_lt HEB.out.lt))
      have HB2 := Lib.hid (HB0.out.trans (hb02.mono HBW.out))
      have HE2 := Lib.hid (HEB.out.next hb02)
      have HN2 := Lib.hid (HND.out.next hb02)
      have HBW2 : Hid (base ≤ w2.heap.size) := Nat.le_trans HBW.out hb02.size
      clear hb2 hb02 k2 k22 HF HE e1 e4
      have HNM := Lib.hid (HAN.out w2)
      cases hnmd : namedR e.name attrB with
      | false =>
        have HR := Lib.hid (HDE2.out.trans (if_pos hnmd))
        rw [hnmd] at HNM
        clear hnmd
        generalize findA x.attrs e.name = f at *
        go_wp2_with (go_at_call 178; refine HNM.out.mono ?_; rintro e' w3 ⟨rfl, hb3⟩)
        go_ret
        exact ⟨by rw [HR.out]; rfl, HB2.out.trans (hb3.mono HBW2.out), by rw [HR.out]; exact fun h => absurd h (by decide)⟩
      | true =>
        have HDE3 := Lib.hid (HDE2.out.trans (if_neg (by rw [hnmd]; decide)))
        rw [hnmd] at HNM
        clear hnmd
        go_upto_region 7 with (go_at_call 178; refine HNM.out.mono ?_; rintro e' w3 ⟨rfl, hb3⟩)
        have HB3 := Lib.hid (HB2.out.trans (hb3.mono HBW2.out))
        have HE3 := Lib.hid (HE2.out.next hb3)
        have HN3 := Lib.hid (HN2.out.next hb3)
        have HBW3 : Hid (base ≤ w3.heap.size) := Nat.le_trans HBW2.out hb3.size
        have k3 := HN3.out.c2
        rw [HP1.out] at k3
        have e43 := HE3.out.cell 4 HC4.out
        have e53 := HE3.out.cell 5 HC5.out
        have f3 := HN3.out.free (m * 6 + 2)
        have hal := HN3.out.parts.ok.attrs
        have HOW := Lib.hid HN3.out.parts.attrs
        rw [HP1.out] at HOW
        clear hb3 e24 HNM HAN
        by_cases h400 : 400 < e.value.size
        · have HR := Lib.hid (HDE3.out.trans (if_pos (Or.inl h400)))
          have i4 : (400 : Int) < (e.value.size : Int) := by omega
          generalize findA x.attrs e.name = f at *
          go_wp2_with fail
          go_ret
          exact ⟨by rw [HR.out]; rfl, HB3.out, by rw [HR.out]; exact fun h => absurd h (by decide)⟩
        · have i4 : ¬ (400 : Int) < (e.value.size : Int) := by omega
          rcases findA_cases x.attrs e.name with ⟨hf, _⟩ | ⟨i, a, hf, hai, _⟩
          · rw [hf] at HDE3 ⊢
            by_cases h12 : x.attrs.length = 12
            · have HR := Lib.hid (HDE3.out.trans (if_pos (Or.inr ⟨by decide, h12⟩)))
              have i12 : ((x.attrs.length : Int) == 12) = true := by rw [h12]; rfl
              clear h12 hf
              go_wp2_with fail
              go_ret
              exact ⟨by rw [HR.out]; rfl, HB3.out, by rw [HR.out]; exact fun h => absurd h (by decide)⟩
            · have HR := Lib.hid (HDE3.out.trans (if_neg (by rintro (h | h); exact h400 h; exact h12 h.2)))
              have i12 : ((x.attrs.length : Int) == 12) = false := beq_eq_false_iff_ne.2 (by omega)
              have HPUT := Lib.hid (show attrPut x.attrs e.name e.value = x.attrs ++ [(e.name, e.value)] from by unfold attrPut; rw [hf, if_pos (by decide)])
              have HA12 : Hid (x.attrs.length + 1 ≤ 12) := by have := H12.out m x HM.out; show _ ≤ _; omega
              clear h12 hf
              go_upto_region 10 with fail
              obtain ⟨w4, hw4⟩ : ∃ w4, w4 = (w3.alloc (.cells #[.string e.name, .string ⟨#[]⟩] 31)).drew := ⟨_, rfl⟩
              have hb34 : Below w3.heap.size w3 w4 := by rw [hw4]; exact ((Below.refl _ _).alloc (Nat.le_refl _) _).drew
              have HE4 := Lib.hid (HE3.out.next hb34)
              have HN4 := Lib.hid (HN3.out.next hb34)
              have HB34 := Lib.hid (hb34.mono HBW3.out)
              have HBW4 : Hid (base ≤ w4.heap.size) := Nat.le_trans HBW3.out hb34.size
              have HO4 := Lib.hid HN4.out.parts.attrs
              rw [HP1.out] at HO4
              have HS4 : Hid (w4.heap.size = w3.heap.size + 1) := by rw [hw4]; exact World.size_alloc w3 _
              have HC4' : Hid (∀ j u, ([.string e.name, .string ⟨#[]⟩] : List Value)[j]? = some u → w4.cell? ⟨w3.heap.size, 0 + j, none⟩ = some u) := by rw [hw4]; exact cell_new w3 _ _
              obtain ⟨cur4, hgb4⟩ := own_block_at HE4.out.at_.ed.row rfl
              have HGB4 := Lib.hid hgb4
              have k4 := HN4.out.c2
              rw [HP1.out] at k4
              have HK4 := Lib.hid k4
              have HAFT : Hid (∀ w5 : World, w4.grownBy w5 (Value.slice A1 x.attrs.length c1).ownBlock → w5.heap[g]? = some (.cells cur4 26 (0, 0)) ∧ w5.heap[w.heap.size]? = some (.cells #[.int .i64 e.do_, .int .i64 e.at_, .int .i64 e.to_, .int .i64 e.before, .string e.name, .string e.value, .int .i64 e.node.kind, .string e.node.name, .slice Aa na ca, .string e.node.text, .int .i64 e.node.parent, .slice Ak nk ck] 64 (0, 0)) ∧
                  w5.cell? ⟨g, m * 6 + 2, none⟩ = some (.slice A1 x.attrs.length c1) ∧ w5.frozen? ⟨g, m * 6 + 2, none⟩ = false ∧ w5.cell? ⟨w.heap.size, 4, none⟩ = some (.string e.name)) := fun w5 hg5 => by
                have hgb5 := keep_block HO4.out hg5 (by decide) HGB4.out
                have heb5 := keep_block HO4.out hg5 (by decide) HE4.out.box
                exact ⟨hgb5, heb5, (cell_same (hgb5.trans HGB4.out.symm) HK4.out), free_blk hgb5, cell_blk heb5 HC4.out⟩
              clear hgb4 k4 hb34
              obtain ⟨v5, w5, hrun5, hown5, hg5, hbl5, hv5⟩ := run_ap1 (P := Tryz.prog) (t := 24) (ty := 24) (c := 1) w4 elemDA2 HO4.out (fun _ h => h.elim) (y := (e.name, ⟨#[]⟩)) (cs := [.string e.name, .string ⟨#[]⟩]) ⟨[_], [_], rfl, ⟨rfl, hnm⟩, rfl, Nat.zero_le _⟩ HC4'.out (by omega) (by omega) HBW4.out
              obtain ⟨hgb5, heb5, k5, f5, e45⟩ := HAFT.out w5 hg5
              obtain ⟨A5, c5, rfl⟩ := Own.form hown5
              rw [hw4] at hrun5
              have HRUN := Lib.hid hrun5
              clear hrun5
              have HE6 := Lib.hid (HE4.out.at_.attrs (v := .slice A5 (x.attrs.length + 1) c5) (ats := x.attrs ++ [(e.name, ⟨#[]⟩)]) HM.out HP.out (by rw [HP1.out]; exact hg5) (by rw [List.length_append]; exact hown5) (by rw [HP1.out]; exact hv5) (by rw [List.length_append, List.length_singleton]; have := HA12.out; omega))
              obtain ⟨ga, cells5, rfl, hga5, hgl5, hrow5, hcell5, hfz5⟩ := Own.block hown5 (by omega)
              have hcap5 : x.attrs.length + 1 ≤ c5 := by
                obtain ⟨_, h1, _⟩ := hown5
                rcases h1.2 with ⟨hv, _⟩ | ⟨g', cap, cur, hv, _, _, hnc, _⟩
                · cases hv
                · injection hv with _ _ hv
                  omega
              have hgg : g ≠ ga := fun e' => by
                have h1 := own_ne_block (by decide) hown5 hgb5
                exact h1 (by rw [e']; rfl)
              obtain ⟨w6, hw6⟩ : ∃ w6, w6 = w5.setCell ⟨g, m * 6 + 2, none⟩ (.slice (some ⟨ga, 0, none⟩) (x.attrs.length + 1) c5) := ⟨_, rfl⟩
              rw [← hw6] at HE6
              have hm6 : (l.set m { x with attrs := x.attrs ++ [(e.name, ⟨#[]⟩)] })[m]? = some { x with attrs := x.attrs ++ [(e.name, ⟨#[]⟩)] } := List.getElem?_set_self (List.getElem?_eq_some_iff.1 HM.out).1
              have hp6 : (ps.set m (Value.slice (some ⟨ga, 0, none⟩) (x.attrs.length + 1) c5, p.2))[m]? = some (Value.slice (some ⟨ga, 0, none⟩) (x.attrs.length + 1) c5, p.2) := List.getElem?_set_self (List.getElem?_eq_some_iff.1 HP.out).1
              obtain ⟨p6, hp6', hnd6⟩ := HE6.out.node hm6
              rw [hp6] at hp6'
              obtain rfl := Option.some.inj hp6'
              have k6 : w6.cell? ⟨g, m * 6 + 2, none⟩ = some (.slice (some ⟨ga, 0, none⟩) (x.attrs.length + 1) c5) := hnd6.c2
              have e56 : w6.cell? ⟨w.heap.size, 5, none⟩ = some (.string e.value) := by
                rw [hw6]
                refine (World.cell?_setCell_other _ _ _ _ (fun e' => ?_)).trans (cell_blk heb5 HC5.out)
                have e'' : g = w.heap.size := congrArg Addr.block e'
                rw [← e'', hgb5] at heb5
                injection heb5 with heb5
                injection heb5 with _ h3
                exact absurd h3 (by decide)
              have s6 : w6.cell? ⟨ga, x.attrs.length * 2 + 1, none⟩ = some (.string ⟨#[]⟩) := by
                rw [hw6]
                refine (World.cell?_setCell_other _ _ _ _ (fun e' => hgg (congrArg Addr.block e'))).trans ?_
                obtain ⟨cs, hcs, hj⟩ := hrow5.at_ (app_last x.attrs (e.name, ⟨#[]⟩))
                obtain ⟨c1', c2', rfl, ⟨rfl, _⟩, rfl, _⟩ := hcs
                exact hcell5 _ _ (hj 1 _ rfl)
              have f6 : w6.frozen? ⟨ga, x.attrs.length * 2 + 1, none⟩ = false := by
                have h1 := hnd6.parts.attrs
                obtain ⟨cur, hc⟩ := own_block_at h1 rfl
                exact free_blk hc
              have HFIN := Lib.hid (HE6.out.value (i := x.attrs.length) (a := (e.name, ⟨#[]⟩)) hm6 hp6 (app_last _ _) rfl hvl)
              have HBF := Lib.hid ((((HB3.out.trans HB34.out).trans hbl5).setCell (p := ⟨g, m * 6 + 2, none⟩) HN4.out.low (.slice (some ⟨ga, 0, none⟩) (x.attrs.length + 1) c5)).setCell (p := ⟨ga, x.attrs.length * 2 + 1, none⟩) hga5 (.string e.value))
              rw [← hw6] at HBF
              have wz : IntKind.i64.wrap (((x.attrs.length + 1 : Nat) : Int) - 1) = (x.attrs.length : Int) := by rw [show (((x.attrs.length + 1 : Nat) : Int) - 1) = (x.attrs.length : Int) from by omega]; exact IntWalk.i64_in _ (by omega)
              have wz2 : IntKind.i64.wrap ((x.attrs.length : Int) + 1 - 1) = (x.attrs.length : Int) := by rw [show ((x.attrs.length : Int) + 1 - 1) = (x.attrs.length : Int) from by omega]; exact IntWalk.i64_in _ (by omega)
              have j1 : (0 : Int) ≤ (x.attrs.length : Int) := by omega
              have j2 : (x.attrs.length : Int) < ((x.attrs.length + 1 : Nat) : Int) := by omega
              have j3 : (x.attrs.length : Int) < (x.attrs.length : Int) + 1 := by omega
              have HW6 := Lib.hid hw6
              have e57 : (w6.setCell ⟨ga, x.attrs.length * 2 + 1, none⟩ (.string e.value)).drew.cell? ⟨w.heap.size, 5, none⟩ = some (.string e.value) := by
                show (w6.setCell ⟨ga, x.attrs.length * 2 + 1, none⟩ (.string e.value)).cell? _ = _
                refine (World.cell?_setCell_other _ _ _ _ (fun e' => ?_)).trans e56
                have e'' : ga = w.heap.size := congrArg Addr.block e'
                exact own_ne_block (by decide) hown5 heb5 (by rw [← e'']; rfl)
              have k7 : (w6.setCell ⟨ga, x.attrs.length * 2 + 1, none⟩ (.string e.value)).drew.cell? ⟨g, m * 6 + 2, none⟩ = some (.slice (some ⟨ga, 0, none⟩) (x.attrs.length + 1) c5) := by
                show (w6.setCell ⟨ga, x.attrs.length * 2 + 1, none⟩ (.string e.value)).cell? _ = _
                exact (World.cell?_setCell_other _ _ _ _ (fun e' => hgg (congrArg Addr.block e').symm)).trans k6
              have HEND : Hid (EdAt (w6.setCell ⟨ga, x.attrs.length * 2 + 1, none⟩ (.string e.value)).drew E g c base (attrDo l e.at_ e.name e.value) q made (ps.set m (Value.slice (some ⟨ga, 0, none⟩) (x.attrs.length + 1) c5, p.2))) := by
                have h1 := HFIN.out.drew
                rw [List.set_set] at h1
                rw [HDO.out, HPUT.out]
                have h2 : (x.attrs ++ [(e.name, (⟨#[]⟩ : ByteArray))]).set x.attrs.length (e.name, e.value) = x.attrs ++ [(e.name, e.value)] := set_last _ _ _
                simp only [h2] at h1
                exact h1
              clear hown5 hg5 hbl5 hv5 hgb5 heb5 e45 hrow5 hcell5 hfz5 hga5 hgl5 hm6 hp6 hp6' hnd6 hgg hw6
              have k3a := fun o => cell_al k3 o
              have e43a := fun o => cell_al e43 o
              go_region_law (refine step_append_runI rfl (.tmp 54) (.tmp 58) 24 rfl _ _ rfl rfl HRUN.out ?_)
              all_goals
                rw [← HW6.out]
                clear k3a e43a k3 e43 e53 f3 k5 f5
                go_upto_region 12 with fail
                go_region_held3 (fun w' => w'.cell? ⟨w.heap.size, 5, none⟩ = some (.string e.value) ∧ w'.cell? ⟨g, m * 6 + 2, none⟩ = some (.slice (some ⟨ga, 0, none⟩) (x.attrs.length + 1) c5)) (first | go_keep | assumption) (fail)
                go_wp2_with fail
                go_ret
                exact ⟨by rw [HR.out]; rfl, HBF.out.drew, fun _ => ⟨_, _, _, HEND.out⟩⟩
          · have HPUT := Lib.hid (show attrPut x.attrs e.name e.value = x.attrs.set i (a.1, e.value) from by unfold attrPut; rw [hf, if_neg (by omega), Int.toNat_natCast, hai, Option.getD_some])
            have HR := Lib.hid (HDE3.out.trans (if_neg (by rintro (h | h); exact h400 h; omega)))
            rw [hf]
            have hil := (List.getElem?_eq_some_iff.1 hai).1
            have hfi : ¬ ((i : Int) < 0) := by omega
            obtain ⟨ga, cells3, rfl, hga3, hgl3, hrow3, hcell3, hfz3⟩ := Own.block HOW.out (by omega)
            have hcap3 : x.attrs.length ≤ c1 := by
              obtain ⟨_, h1, _⟩ := HOW.out
              rcases h1.2 with ⟨hv, _⟩ | ⟨g', cap, cur, hv, _, _, hnc, _⟩
              · cases hv
              · injection hv with _ _ hv
                omega
            obtain ⟨cur3, hgb3⟩ := own_block_at HE3.out.at_.ed.row rfl
            have s3 : w3.cell? ⟨ga, i * 2 + 1, none⟩ = some (.string a.2) := by
              obtain ⟨cs, hcs, hj⟩ := hrow3.at_ hai
              obtain ⟨c1', c2', rfl, ⟨rfl, _⟩, rfl, _⟩ := hcs
              exact hcell3 _ _ (hj 1 _ rfl)
            have g3 : w3.frozen? ⟨ga, i * 2 + 1, none⟩ = false := hfz3 _
            have HBF := Lib.hid (HB3.out.setCell (p := ⟨ga, i * 2 + 1, none⟩) hga3 (.string e.value))
            have e57 : (w3.setCell ⟨ga, i * 2 + 1, none⟩ (.string e.value)).drew.cell? ⟨w.heap.size, 5, none⟩ = some (.string e.value) := by
              show (w3.setCell ⟨ga, i * 2 + 1, none⟩ (.string e.value)).cell? _ = _
              refine (World.cell?_setCell_other _ _ _ _ (fun e' => ?_)).trans e53
              have e'' : ga = w.heap.size := congrArg Addr.block e'
              exact own_ne_block (by decide) HOW.out HE3.out.box (by rw [← e'']; rfl)
            have k7 : (w3.setCell ⟨ga, i * 2 + 1, none⟩ (.string e.value)).drew.cell? ⟨g, m * 6 + 2, none⟩ = some (.slice (some ⟨ga, 0, none⟩) x.attrs.length c1) := by
              show (w3.setCell ⟨ga, i * 2 + 1, none⟩ (.string e.value)).cell? _ = _
              refine (World.cell?_setCell_other _ _ _ _ (fun e' => ?_)).trans k3
              have e'' : ga = g := congrArg Addr.block e'
              exact own_ne_block (by decide) HOW.out hgb3 (by rw [← e'']; rfl)
            have HEND : Hid (EdAt (w3.setCell ⟨ga, i * 2 + 1, none⟩ (.string e.value)).drew E g c base (attrDo l e.at_ e.name e.value) q made ps) := by
              have h1 := (HE3.out.at_.value HM.out HP.out hai HP1.out hvl).drew
              rw [HDO.out, HPUT.out]
              exact h1
            have j1 : (0 : Int) ≤ (i : Int) := by omega
            have j2 : (i : Int) < (x.attrs.length : Int) := by omega
            clear hrow3 hcell3 hfz3 hga3 hgl3 hgb3 hai hf HOW
            go_upto_region 12 with fail
            go_region_held3 (fun w' => w'.cell? ⟨w.heap.size, 5, none⟩ = some (.string e.value) ∧ w'.cell? ⟨g, m * 6 + 2, none⟩ = some (.slice (some ⟨ga, 0, none⟩) x.attrs.length c1)) (first | go_keep | assumption) (fail)
            go_wp2_with fail
            go_ret
            exact ⟨by rw [HR.out]; rfl, HBF.out.drew, fun _ => ⟨_, _, _, HEND.out⟩⟩
end Go.Proofs.YtpbngckplbnahaaGreatDoor

/-
The walks of package dom's editor: remove.
-/
namespace Go.Proofs.YtpbngckplbnahaaGreatDoor
open Go.RowKit Go.Cl
attribute [local go_sem ↓] Go.wp_at_zero Go.wp_at_succ

/-- A call that leaves all as it is, behind draws. -/
theorem quiet_l {P : Program} {f : FuncId} {args : Array Value} {w : World} {n : Nat} {v : Value} (h : Calls P f args (w.drewN n) fun e w' => e = .returned v ∧ w.drewN n = w') : Calls P f args (w.drewN n) fun e w'' => e = .returned v ∧ ∃ m, w'' = w.drewN m :=
  h.mono fun _ _ ⟨he, hm⟩ => ⟨he, n, hm.symm⟩
theorem EdAt.drewN {w : World} {E g c base : Nat} {l : List Nd} {q : Bool} {made : Int} {ps : List (Value × Value)} (h : EdAt w E g c base l q made ps) (k : Nat) : EdAt (w.drewN k) E g c base l q made ps := h.next (below_dN (Below.refl _ _) k)
theorem sl_drewN {α : Type} {T : Ty α} {w : World} {D : Nat → Prop} {A : Option Addr} {n c : Nat} {xs : List α} (h : Sl T w D A n c xs) (k : Nat) : Sl T (w.drewN k) D A n c xs := h.keep fun _ _ => rfl

set_option maxRecDepth 100000 in
set_option maxHeartbeats 4000000 in
theorem remove_any (w : World) (E g c base : Nat) (l : List Nd) (q : Bool) (made : Int) (ps : List (Value × Value)) (e : Edt) (Aa : Option Addr) (na ca : Nat) (Ak : Option Addr) (nk ck : Nat) (h : EdAt w E g c base l q made ps) (hg : Good l) :
    Calls Tryz.prog 144 #[.pointer (some ⟨E, 0, none⟩), .agg (edtCells e Aa na ca Ak nk ck)] w (EdPost E base q (remErr l e.at_) (remDo l e.at_) made w) := by
  obtain ⟨w0, hw0⟩ : ∃ w0, w0 = w.alloc (.cells (edtCells e Aa na ca Ak nk ck) 64) := ⟨_, rfl⟩
  have hk := eb_of h (edtCells e Aa na ca Ak nk ck)
  rw [← hw0] at hk
  obtain ⟨hEB, hb0⟩ := hk
  have e1 := hEB.cell 1 (v := .int .i64 e.at_) rfl
  have c0 := hEB.at_.c0
  have HB0 := Lib.hid hb0
  have HEB := Lib.hid hEB
  have HN := Lib.hid (node_any w0 E g c base l q made ps e.at_ hEB.at_)
  have HGD := Lib.hid hg
  clear h hb0 hEB hg
  go_enter Tryz.func144, Tryz.ntmps144
  unfold edtCells at *
  go_upto_region 1 with fail
  rw [← hw0]
  clear hw0
  cases hx : nodeAt l e.at_ with
  | none =>
    have HR := Lib.hid (show remErr l e.at_ = 5 from by unfold remErr; rw [hx])
    rw [ptr_none hx] at HN
    clear hx
    go_wp2_with (go_at_call 181; refine HN.out.mono ?_; rintro e' w1 ⟨rfl, rfl⟩)
    go_ret
    exact ⟨by rw [HR.out]; rfl, HB0.out, by rw [HR.out]; exact fun h => absurd h (by decide)⟩
  | some x =>
    obtain ⟨m, hme, hm⟩ := nodeAt_some hx
    rw [hme] at hx HN e1
    have HRE := Lib.hid (show remErr l e.at_ = if x.kind = 1 then 7 else if x.parent < 0 then 5 else 0 from by unfold remErr; rw [hme, hx])
    obtain ⟨p, hp, hnd⟩ := HEB.out.at_.node hm
    have k0 := hnd.c0
    have k4 := hnd.c4
    rw [ptr_some hm] at HN
    by_cases h1 : x.kind = 1
    · have HR := Lib.hid (HRE.out.trans (if_pos h1))
      rw [h1] at k0
      clear hx hp hnd hm hme h1
      go_wp2_with (go_at_call 181; refine HN.out.mono ?_; rintro e' w1 ⟨rfl, rfl⟩)
      go_ret
      exact ⟨by rw [HR.out]; rfl, HB0.out, by rw [HR.out]; exact fun h => absurd h (by decide)⟩
    · have hk1 : (x.kind == 1) = false := beq_eq_false_iff_ne.2 h1
      by_cases h2 : x.parent < 0
      · have HR := Lib.hid ((HRE.out.trans (if_neg h1)).trans (if_pos h2))
        clear hx hp hnd hm hme h1
        go_wp2_with (go_at_call 181; refine HN.out.mono ?_; rintro e' w1 ⟨rfl, rfl⟩)
        go_ret
        exact ⟨by rw [HR.out]; rfl, HB0.out, by rw [HR.out]; exact fun h => absurd h (by decide)⟩
      · have hR0 := (HRE.out.trans (if_neg h1)).trans (if_neg h2)
        obtain ⟨m', pp, i, x', y, hme', hr⟩ := remErr_iff HGD.out hR0
        have : m' = m := by omega
        subst this
        have hx' := hr.hx
        rw [hm] at hx'
        obtain rfl := Option.some.inj hx'
        obtain ⟨py, hpy, hndy⟩ := HEB.out.at_.node hr.hy
        have HR := Lib.hid hR0
        have HDO := Lib.hid hr.do_
        have HME := Lib.hid hme
        have hil := (List.getElem?_eq_some_iff.1 hr.at_).1
        obtain ⟨A1, c1, hp1, sl1⟩ := OwnF.sl hndy.parts.kids (by decide) (by have := hndy.parts.ok.kids; show y.kids.length * 8 ≤ _; omega)
        have ho := hndy.parts.kids
        rw [hp1] at ho
        obtain ⟨ga, cells, hA1, hga, hgl, hrow, hcell, hfz⟩ := Own.block ho (by omega)
        subst hA1
        have k5 := hndy.c5
        rw [hp1] at k5
        rw [hr.par] at k4
        have hpl := (List.getElem?_eq_some_iff.1 hr.hy).1
        have j1 : (0 : Int) ≤ (pp : Int) := by omega
        have j2 : (pp : Int) < (l.length : Int) := by omega
        have j3 : ¬ (pp : Int) < 0 := by omega
        have wz : IntKind.i64.wrap ((i : Int) + 1) = (i : Int) + 1 := IntWalk.i64_in _ (by have := hndy.parts.ok.kids; omega)
        have HOY := Lib.hid ho
        have HRM := Lib.hid hr
        have HNY := Lib.hid hndy
        have HND := Lib.hid hnd
        have HP := Lib.hid hp
        have HPY := Lib.hid hpy
        have HP1 := Lib.hid hp1
        have HM := Lib.hid hm
        have HIL := Lib.hid hil
        have HGA := Lib.hid hga
        have HNE := Lib.hid hr.ne
        have HCAP : Hid (l.length ≤ c) := HEB.out.at_.cap
        clear h2 h1 hR0 hr hme' hx' hpy hndy hil hp1 sl1 ho hrow hcell hfz hpl hp hnd hm hx hme
        go_upto_region 8 with (go_at_call 181; refine HN.out.mono ?_; rintro e' w1 ⟨rfl, rfl⟩)
        have hcap := HCAP.out
        go_quiet (fail)
        generalize hw1 : w0.drewN _ = w1
        have hb1 : Below w0.heap.size w0 w1 := by rw [← hw1]; exact below_dN (Below.refl _ _) _
        have HE1 := Lib.hid (HEB.out.next hb1)
        have HN1 := Lib.hid (HND.out.next hb1)
        have HY1 := Lib.hid (HNY.out.next hb1)
        have HBW : Hid (base ≤ w0.heap.size) := Nat.le_trans HEB.out.low (Nat.le_trans HEB.out.le (Nat.le_of_lt HEB.out.lt))
        have HB1 := Lib.hid (HB0.out.trans (hb1.mono HBW.out))
        clear hw1 hb1 hcap c0 k0 k4 k5 e1 hk1 j1 j2 j3 HN
        have e1 := HE1.out.cell 1 (v := .int .i64 e.at_) rfl
        rw [HME.out] at e1
        have k5 := HY1.out.c5
        rw [HP1.out] at k5
        obtain ⟨A1, c2, hp2, sl2⟩ := OwnF.sl HY1.out.parts.kids (by decide) (by have := HY1.out.parts.ok.kids; show y.kids.length * 8 ≤ _; omega)
        rw [HP1.out] at hp2
        simp only [Value.slice.injEq, true_and] at hp2
        obtain ⟨rfl, rfl⟩ := hp2
        have HI := Lib.hid (fun k => quiet_l ((index_int _ _ _ y.kids m' (w1.drewN k) _ (sl_drewN sl2 k)).mono fun _ _ h => ⟨h.1, h.2.symm⟩))
        rw [HRM.out.idx] at HI
        clear sl2
        go_upto_region 9 with fail
        go_quiet ((go_at_call 108; exact HI.out _))
        generalize hw2 : w1.drewN _ = w2
        have hb2 : Below w1.heap.size w1 w2 := by rw [← hw2]; exact below_dN (Below.refl _ _) _
        have HE2 := Lib.hid (HE1.out.next hb2)
        have HN2 := Lib.hid (HN1.out.next hb2)
        have HY2 := Lib.hid (HY1.out.next hb2)
        have HBW1 : Hid (base ≤ w1.heap.size) := Nat.le_trans HE1.out.low (Nat.le_trans HE1.out.le (Nat.le_of_lt HE1.out.lt))
        have HB2 := Lib.hid (HB1.out.trans (hb2.mono HBW1.out))
        clear hw2 hb2 k5 e1 HI
        have k5 := HY2.out.c5
        rw [HP1.out] at k5
        have k4 := HN2.out.c4
        have f4 := HY2.out.free
        have ho1 := HY2.out.parts.kids
        rw [HP1.out] at ho1
        have HDEL := Lib.hid (deleteI ga y.kids.length c1 i y.kids w2 base ho1 HIL.out)
        have hgg : g ≠ ga := fun e' => by
          have h1 := own_ne_block (e' := 3) (by decide) HE2.out.at_.ed.row (own_block_at ho1 rfl).choose_spec
          exact h1 (by rw [e']; rfl)
        have HGG := Lib.hid hgg
        have HLT := Lib.hid HY2.out.lt
        have HK4 := Lib.hid k4
        clear ho1 hgg k4
        go_wp2_with (go_at_call 185; refine HDEL.out.mono ?_; rintro e' w3 ⟨rfl, hown3, hg3⟩; have hbk := hg3.block g HLT.out (fun e' => HGG.out (by simpa using e')); have k53 : w3.cell? ⟨g, pp * 6 + 5, none⟩ = some (.slice (some ⟨ga, 0, none⟩) y.kids.length c1) := cell_same hbk k5; have f43 : ∀ k, w3.frozen? ⟨g, k, none⟩ = false := (fun k => by have := f4 k; unfold World.frozen? at this ⊢; rw [hbk]; exact this); have k43 : (w3.setCell ⟨g, pp * 6 + 5, none⟩ (.slice (some ⟨ga, 0, none⟩) (y.kids.length - 1) c1)).cell? ⟨g, m' * 6 + 4, none⟩ = some (.int .i64 x.parent) := (World.cell?_setCell_other _ _ _ _ (fun e' => by have e'' := congrArg Addr.off e'; simp at e''; omega)).trans (cell_same hbk HK4.out); clear k5 hbk)
        go_ret
        have hlen : (y.kids.eraseIdx i).length = y.kids.length - 1 := by rw [List.length_eraseIdx, if_pos HIL.out]
        have hE3 := HE2.out.at_.kids HRM.out.hy HPY.out (v := .slice (some ⟨ga, 0, none⟩) (y.kids.length - 1) c1) (ks := y.kids.eraseIdx i) (by rw [HP1.out]; exact hg3) (by rw [hlen]; exact hown3) (Or.inl (by rw [HP1.out]; rfl)) (by rw [hlen]; have := HY2.out.parts.ok.kids; omega)
        have hx3 : (l.set pp { y with kids := y.kids.eraseIdx i })[m']? = some x := by rw [List.getElem?_set_ne HRM.out.ne]; exact HM.out
        have hp3 : (ps.set pp (py.1, .slice (some ⟨ga, 0, none⟩) (y.kids.length - 1) c1))[m']? = some p := by rw [List.getElem?_set_ne HRM.out.ne]; exact HP.out
        have hE4 := hE3.plain (y := { x with parent := -1 }) (j := 4) (u := .int .i64 (-1)) hx3 hp3 (by decide) rfl rfl rfl ⟨HND.out.parts.ok.kind, HND.out.parts.ok.name, HND.out.parts.ok.text, (by decide : (Lit.int .i64 (-1)).wf = true), HND.out.parts.ok.attrs, HND.out.parts.ok.kids⟩
        refine ⟨by rw [HR.out]; rfl, ?_, fun _ => ⟨g, c, ps.set pp (py.1, .slice (some ⟨ga, 0, none⟩) (y.kids.length - 1) c1), ?_⟩⟩
        · exact ((HB2.out.grown hg3 (by have := HB2.out.size; have := HE2.out.lt; have := HE2.out.low; have := HE2.out.le; omega) (fun k hk => by simp at hk; have := HGA.out; omega)).setCell (p := ⟨g, pp * 6 + 5, none⟩) HN2.out.low _).setCell (p := ⟨g, m' * 6 + 4, none⟩) HN2.out.low _
        · rw [HME.out, HDO.out]
          exact hE4
end Go.Proofs.YtpbngckplbnahaaGreatDoor
