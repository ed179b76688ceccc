/-
The walks of package span: points, Less.
-/
import Derived.Test.YtcnogokemilhnaaDoorSpanOrd
namespace Go.Proofs.YtcnogokemilhnaaDoor
open Go.RowKit Go.Cl
attribute [local go_sem ↓] Go.wp_at_zero Go.wp_at_succ

def tPt : Ty Pt := tMap (tPair (tInt .i64) (tInt .i64)) (fun p => (p.node, p.at_)) 16
theorem pt_get {w : World} {D : Nat → Prop} {A : Option Addr} {n c : Nat} {ps : List Pt} (h : Sl tPt w D A n c ps) {i : Nat} {p : Pt} (hp : ps[i]? = some p) :
    ∃ b o, A = some ⟨b, o, none⟩ ∧ D b ∧ w.cell? ⟨b, o + i * 2, none⟩ = some (.int .i64 p.node) ∧ w.cell? ⟨b, o + i * 2 + 1, none⟩ = some (.int .i64 p.at_) := by
  obtain ⟨b, o, cs, e, hD, hr, hc⟩ := h.get hp
  obtain ⟨_, _, rfl, ⟨rfl, _⟩, rfl, _⟩ := hr
  exact ⟨b, o, e, hD, hc 0 _ rfl, by rw [Nat.add_assoc]; exact hc 1 _ rfl⟩
/-- Which of some points is wrong. -/
def ptsF (l : List Nd) : List Pt → Int
  | [] => 0
  | p :: r => if ptE l p ≠ 0 then ptE l p else ptsF l r
def ptsS (l : List Nd) (ps : List Pt) : Int := if checkD l ≠ 0 then checkD l else ptsF l ps
theorem ptsF_bad {l : List Nd} {ps : List Pt} {i : Nat} {p : Pt} (hp : ps[i]? = some p) (h : ptE l p ≠ 0) : ptsF l (ps.drop i) = ptE l p := by
  rw [List.drop_eq_getElem_cons (List.getElem?_eq_some_iff.1 hp).1, (List.getElem?_eq_some_iff.1 hp).2, ptsF, if_pos h]
theorem ptsF_go {l : List Nd} {ps : List Pt} {i : Nat} {p : Pt} (hp : ps[i]? = some p) (h : ptE l p = 0) : ptsF l (ps.drop i) = ptsF l (ps.drop (i + 1)) := by
  rw [List.drop_eq_getElem_cons (List.getElem?_eq_some_iff.1 hp).1, (List.getElem?_eq_some_iff.1 hp).2, ptsF, if_neg (by simpa using h)]
/-- A ranger in its box, a place for a result, in a later world. -/
structure GB (w : World) (B : Nat) (A : Option Addr) (k c : Nat) (q : Bool) (l : List Nd) (hg hr : Nat) (u : World) : Prop where
  below : Below w.heap.size w u
  box : u.heap[hg]? = some (.cells #[.slice A k c, .bool q] 106 (0, 0))
  res : u.heap[hr]? = some (.cells #[.slice none 0 0, .bool false] 106 (0, 0))
  doc : Sl tNd u (lt B) A k c l
  le : B ≤ u.heap.size
section
variable {w : World} {B : Nat} {A : Option Addr} {k c : Nat} {q : Bool} {l : List Nd} {hg hr : Nat} {u u' : World}
theorem GB.next (h : GB w B A k c q l hg hr u) (hb : Below u.heap.size u u') : GB w B A k c q l hg hr u' :=
  ⟨h.below.trans (hb.mono h.below.size), (hb.block _ (Array.getElem?_eq_some_iff.1 h.box).1).trans h.box, (hb.block _ (Array.getElem?_eq_some_iff.1 h.res).1).trans h.res, h.doc.below hb h.le, Nat.le_trans h.le hb.size⟩
end
set_option maxRecDepth 100000 in
set_option maxHeartbeats 4000000 in
theorem points_any (A : Option Addr) (n c : Nat) (l : List Nd) (q : Bool) (A2 : Option Addr) (m c2 : Nat) (ps : List Pt) (w : World) (B : Nat) (hl : Sl tNd w (lt B) A n c l) (hps : Sl tPt w (lt B) A2 m c2 ps) (hB : B ≤ w.heap.size) :
    Calls Tryd.prog 59 #[.agg #[.slice A n c, .bool q], .slice A2 m c2] w fun e w' => e = .returned (.tuple #[.agg #[.slice A n c, .bool q], .int .i64 (ptsS l ps)]) ∧ Below w.heap.size w w' := by
  obtain ⟨wa, hwa⟩ : ∃ wa, wa = w.alloc (.cells #[.slice A n c, .bool q] 24) := ⟨_, rfl⟩
  obtain ⟨wb, hwb⟩ : ∃ wb, wb = wa.alloc (.cells #[.slice none 0 0, .bool false] 106) := ⟨_, rfl⟩
  obtain ⟨w0, hw0⟩ : ∃ w0, w0 = wb.alloc (.cells #[.slice A n c, .bool q] 106) := ⟨_, rfl⟩
  have za : wa.heap.size = w.heap.size + 1 := by rw [hwa]; exact World.size_alloc w _
  have zb : wb.heap.size = w.heap.size + 1 + 1 := by rw [hwb, World.size_alloc, za]
  have z0 : w0.heap.size = w.heap.size + 3 := by rw [hw0, World.size_alloc, zb]
  have hx1 : w0.heap[w.heap.size]? = some (.cells #[.slice A n c, .bool q] 24 (0, 0)) := by rw [hw0, Lib.alloc_old _ _ _ (by omega), hwb, Lib.alloc_old _ _ _ (by omega), hwa]; exact heap_alloc_new w _
  have hx2 : w0.heap[w.heap.size + 1]? = some (.cells #[.slice none 0 0, .bool false] 106 (0, 0)) := by rw [hw0, Lib.alloc_old _ _ _ (by omega), hwb, ← za]; exact heap_alloc_new wa _
  have hx3 : w0.heap[w.heap.size + 1 + 1]? = some (.cells #[.slice A n c, .bool q] 106 (0, 0)) := by rw [hw0, ← zb]; exact heap_alloc_new wb _
  have hb0 : Below w.heap.size w w0 := by rw [hw0, hwb, hwa]; exact (((Below.refl _ _).alloc (Nat.le_refl _) _).alloc (by simp) _).alloc (by simp; omega) _
  have H0 : Hid (GB w B A n c q l (w.heap.size + 1 + 1) (w.heap.size + 1) w0) := ⟨hb0, hx3, hx2, hl.below hb0 hB, Nat.le_trans hB hb0.size⟩
  have HPS := Lib.hid hps
  have HBW : Hid (B ≤ w.heap.size) := hB
  have HM := Lib.hid hps.hn
  have hmc := hps.hc
  have hm63 := hps.small
  have d0 : w0.cell? ⟨w.heap.size, 0, none⟩ = some (.slice A n c) := cell_blk hx1 rfl
  have d1 : w0.cell? ⟨w.heap.size, 1, none⟩ = some (.bool q) := cell_blk hx1 rfl
  have HCK := Lib.hid (check_dom A n c l q w0 B H0.out.doc H0.out.le)
  clear za zb z0 hx1 hx2 hx3 hb0 hl hps hB
  go_enter Tryd.func59, Tryd.ntmps59
  go_upto_region 2 with fail
  rw [← hwa, ← hwb, ← hw0]
  clear hwa hwb hw0
  by_cases hck : checkD l = 0
  · have HSP := Lib.hid (show ptsS l ps = ptsF l ps from if_neg (by simpa using hck))
    have HT := Lib.hid (tree_of hck)
    rw [hck] at HCK
    clear hck
    go_upto_region 5 with (go_at_call 46; refine HCK.out.mono ?_; rintro e' w1 ⟨rfl, hb1⟩)
    have H1 := Lib.hid (H0.out.next hb1)
    clear hb1 d0 d1 HCK
    go_wp2_with fail
    go_loopw [21] (fun s wr => ∃ i : Nat, i ≤ m ∧ s = .int .i64 (i : Int) ∧ Hid (GB w B A n c q l (w.heap.size + 1 + 1) (w.heap.size + 1) wr ∧ ptsF l ps = ptsF l (ps.drop i))) (fun s _ => m - (intOf s).toNat)
    case atStart => exact ⟨0, Nat.zero_le _, rfl, Lib.hid ⟨H1.out, rfl⟩⟩
    case round =>
      obtain ⟨i, hi, rfl, HR⟩ := hrel
      have HG := Lib.hid HR.out.1
      by_cases hlt : i < m
      · obtain ⟨p, hp⟩ : ∃ p, ps[i]? = some p := get_some (by have := HM.out; omega)
        obtain ⟨b, o, rfl, _, c0, c1⟩ := pt_get (HPS.out.below HG.out.below HBW.out) hp
        have i1 : (0 : Int) ≤ (i : Int) := by omega
        have i2 : (i : Int) < (m : Int) := by omega
        go_upto_region 8 with fail
        obtain ⟨w5, hw5⟩ : ∃ w5, w5 = wr.alloc (.cells #[.int .i64 p.node, .int .i64 p.at_] 57) := ⟨_, rfl⟩
        rw [← hw5]
        have hb5 : Below wr.heap.size wr w5 := by rw [hw5]; exact (Below.refl _ _).alloc (Nat.le_refl _) _
        have hx5 : w5.heap[wr.heap.size]? = some (.cells #[.int .i64 p.node, .int .i64 p.at_] 57 (0, 0)) := by rw [hw5]; exact heap_alloc_new wr _
        have H5 := Lib.hid (HG.out.next hb5)
        have g0 : w5.cell? ⟨w.heap.size + 1 + 1, 0, none⟩ = some (.slice A n c) := cell_blk H5.out.box rfl
        have g1 : w5.cell? ⟨w.heap.size + 1 + 1, 1, none⟩ = some (.bool q) := cell_blk H5.out.box rfl
        have p0 : w5.cell? ⟨wr.heap.size, 0, none⟩ = some (.int .i64 p.node) := cell_blk hx5 rfl
        have p1 : w5.cell? ⟨wr.heap.size, 1, none⟩ = some (.int .i64 p.at_) := cell_blk hx5 rfl
        have HPT := Lib.hid (point_any A n c l q p w5 B H5.out.doc H5.out.le HT.out)
        clear hw5 hb5 hx5 c0 c1
        by_cases he : ptE l p = 0
        · have HGO := Lib.hid (HR.out.2.trans (ptsF_go hp he))
          rw [he] at HPT
          clear he hp HR
          go_wp2_with (go_at_call 91; refine HPT.out.mono ?_; rintro e' w6 ⟨rfl, hb6⟩)
          go_roundw
          case rel => exact ⟨i + 1, by omega, by go_num, Lib.hid ⟨H5.out.next hb6, HGO.out⟩⟩
          case measure => simp [intOf]; omega
        · have HBD := Lib.hid (HSP.out.trans (HR.out.2.trans (ptsF_bad hp he)))
          have he1 : (ptE l p != 0) = true := by simpa using he
          clear he hp HR
          generalize ptE l p = er at *
          go_upto_region 10 with (go_at_call 91; refine HPT.out.mono ?_; rintro e' w6 ⟨rfl, hb6⟩)
          have H6 := Lib.hid (H5.out.next hb6)
          have k0 : w6.cell? ⟨w.heap.size + 1 + 1, 0, none⟩ = some (.slice A n c) := cell_blk H6.out.box rfl
          have k1 : w6.cell? ⟨w.heap.size + 1 + 1, 1, none⟩ = some (.bool q) := cell_blk H6.out.box rfl
          have r0 := cell_blk (i := 0) H6.out.res rfl
          have r1 := cell_blk (i := 1) H6.out.res rfl
          have q0 := free_blk (i := 0) H6.out.res
          have q1 := free_blk (i := 1) H6.out.res
          have hres1 := set_blk (i := 0) H6.out.res (.slice A n c)
          have hres2 := set_blk (i := 1) hres1 (.bool q)
          have t0 := cell_blk (i := 0) (v := .slice A n c) hres2 rfl
          have t1 := cell_blk (i := 1) (v := .bool q) hres2 rfl
          have HBF := Lib.hid ((H6.out.below.setCell (p := ⟨w.heap.size + 1, 0, none⟩) (by show w.heap.size ≤ w.heap.size + 1; omega) (.slice A n c)).setCell (p := ⟨w.heap.size + 1, 1, none⟩) (by show w.heap.size ≤ w.heap.size + 1; omega) (.bool q))
          clear hres1 hres2
          go_wp2_with fail
          refine bodyPost_ret (v := .tuple #[.agg #[.slice A n c, .bool q], .int .i64 er]) (by simp [results, Tryd.results59, go_sem, t0, t1]) rfl ⟨by rw [HBD.out], HBF.out⟩
      · have HEN := Lib.hid (show ptsS l ps = 0 from by rw [HSP.out, HR.out.2, List.drop_of_length_le (by have := HM.out; omega)]; rfl)
        have k0 : wr.cell? ⟨w.heap.size + 1 + 1, 0, none⟩ = some (.slice A n c) := cell_blk HG.out.box rfl
        have k1 : wr.cell? ⟨w.heap.size + 1 + 1, 1, none⟩ = some (.bool q) := cell_blk HG.out.box rfl
        have HBD := HEN
        clear HR
        have r0 := cell_blk (i := 0) HG.out.res rfl
        have r1 := cell_blk (i := 1) HG.out.res rfl
        have q0 := free_blk (i := 0) HG.out.res
        have q1 := free_blk (i := 1) HG.out.res
        have hres1 := set_blk (i := 0) HG.out.res (.slice A n c)
        have hres2 := set_blk (i := 1) hres1 (.bool q)
        have t0 := cell_blk (i := 0) (v := .slice A n c) hres2 rfl
        have t1 := cell_blk (i := 1) (v := .bool q) hres2 rfl
        have HBF := Lib.hid ((HG.out.below.setCell (p := ⟨w.heap.size + 1, 0, none⟩) (by show w.heap.size ≤ w.heap.size + 1; omega) (.slice A n c)).setCell (p := ⟨w.heap.size + 1, 1, none⟩) (by show w.heap.size ≤ w.heap.size + 1; omega) (.bool q))
        clear hres1 hres2
        go_wp2_with fail
        refine bodyPost_ret (v := .tuple #[.agg #[.slice A n c, .bool q], .int .i64 0]) (by simp [results, Tryd.results59, go_sem, t0, t1]) rfl ⟨by rw [HBD.out], HBF.out⟩
  · have HBD := Lib.hid (show ptsS l ps = checkD l from if_pos hck)
    have hck1 : (checkD l != 0) = true := by simpa using hck
    clear hck
    generalize checkD l = er at *
    go_upto_region 4 with (go_at_call 46; refine HCK.out.mono ?_; rintro e' w1 ⟨rfl, hb1⟩)
    have H6 := Lib.hid (H0.out.next hb1)
    have k0 : w1.cell? ⟨w.heap.size + 1 + 1, 0, none⟩ = some (.slice A n c) := cell_blk H6.out.box rfl
    have k1 : w1.cell? ⟨w.heap.size + 1 + 1, 1, none⟩ = some (.bool q) := cell_blk H6.out.box rfl
    clear d0 d1
    have r0 := cell_blk (i := 0) H6.out.res rfl
    have r1 := cell_blk (i := 1) H6.out.res rfl
    have q0 := free_blk (i := 0) H6.out.res
    have q1 := free_blk (i := 1) H6.out.res
    have hres1 := set_blk (i := 0) H6.out.res (.slice A n c)
    have hres2 := set_blk (i := 1) hres1 (.bool q)
    have t0 := cell_blk (i := 0) (v := .slice A n c) hres2 rfl
    have t1 := cell_blk (i := 1) (v := .bool q) hres2 rfl
    have HBF := Lib.hid ((H6.out.below.setCell (p := ⟨w.heap.size + 1, 0, none⟩) (by show w.heap.size ≤ w.heap.size + 1; omega) (.slice A n c)).setCell (p := ⟨w.heap.size + 1, 1, none⟩) (by show w.heap.size ≤ w.heap.size + 1; omega) (.bool q))
    clear hres1 hres2
    go_wp2_with fail
    refine bodyPost_ret (v := .tuple #[.agg #[.slice A n c, .bool q], .int .i64 er]) (by simp [results, Tryd.results59, go_sem, t0, t1]) rfl ⟨by rw [HBD.out], HBF.out⟩
end Go.Proofs.YtcnogokemilhnaaDoor
