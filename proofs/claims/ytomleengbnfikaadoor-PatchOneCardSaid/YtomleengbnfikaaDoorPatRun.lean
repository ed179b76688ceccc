/-
Patches: the walk of Run.
-/
import Derived.Test.YtomleengbnfikaaDoorPatKit
import Derived.Test.YtomleengbnfikaaDoorEdDocs
import Derived.Test.YtomleengbnfikaaDoorRegionG
namespace Go.Proofs.YtomleengbnfikaaDoor
open Go.RowKit Go.Cl
attribute [local go_sem ↓] Go.wp_at_zero Go.wp_at_succ

theorem bst4 {a b c : World} (h1 : Below a.heap.size a b) (h2 : Below b.heap.size b c) : Below a.heap.size a c := h1.trans (h2.mono h1.size)
/-- A slice's length. -/
def lenOf : Value → Nat
  | .slice _ n _ => n
  | _ => 0
/-- At the head of Run's loop. -/
structure RnI (w : World) (q : Bool) (l l2 : List Nd) (es : List Edt) (A2 : Option Addr) (m2 c2 : Nat) (s1 : Value) (d : List Nd) (A : Option Addr) (c : Nat) (W : World) : Prop where
  below : Below w.heap.size w W
  box : W.heap[w.heap.size]? = some (.cells #[.slice A d.length c, .bool q] 24 (0, 0))
  res : W.heap[w.heap.size + 1]? = some (.cells #[.slice none 0 0, .bool false] 24 (0, 0))
  doc : Sl tNd W (rg (w.heap.size + 2) W.heap.size) A d.length c d
  st : (s1 = .slice A2 m2 c2 ∧ d = l ∧ 0 < m2) ∨ (∃ A3 c3, s1 = .slice A3 0 c3 ∧ d = l2)
set_option maxRecDepth 100000 in
set_option maxHeartbeats 8000000 in
theorem run_any (A : Option Addr) (n c : Nat) (l : List Nd) (q : Bool) (A2 : Option Addr) (m2 c2 : Nat) (es : List Edt) (l2 : List Nd) (w : World) (B : Nat) (hl : Sl tNd w (lt B) A n c l) (hes : Sl tEdt w (lt B) A2 m2 c2 es) (hB : B ≤ w.heap.size) (G : Good l) (h40 : es.length ≤ 40) (hal : alR l es = (l2, 0, 0)) :
    Calls Tryd.prog 9 #[.agg #[.slice A n c, .bool q], .slice A2 m2 c2] w fun e w' => Below w.heap.size w w' ∧ ∃ A' c', e = .returned (.tuple #[.agg #[.slice A' l2.length c', .bool q], .int .i64 0]) ∧ Sl tNd w' (rg w.heap.size w'.heap.size) A' l2.length c' l2 := by
  obtain ⟨wa, hwa⟩ : ∃ wa, wa = w.alloc (.cells #[.slice A n c, .bool q] 24) := ⟨_, rfl⟩
  obtain ⟨w0, hw0⟩ : ∃ w0, w0 = wa.alloc (.cells #[.slice none 0 0, .bool false] 24) := ⟨_, rfl⟩
  have za : wa.heap.size = w.heap.size + 1 := by rw [hwa]; exact World.size_alloc w _
  have z0 : w0.heap.size = w.heap.size + 2 := by rw [hw0, World.size_alloc, za]
  have hb0 : Below w.heap.size w w0 := by rw [hw0, hwa]; exact ((Below.refl _ _).alloc (Nat.le_refl _) _).alloc (by simp) _
  have hx1 : w0.heap[w.heap.size]? = some (.cells #[.slice A n c, .bool q] 24 (0, 0)) := by rw [hw0, Lib.alloc_old _ _ _ (by omega), hwa]; exact heap_alloc_new w _
  have hx2 : w0.heap[w.heap.size + 1]? = some (.cells #[.slice none 0 0, .bool false] 24 (0, 0)) := by rw [hw0, ← za]; exact heap_alloc_new wa _
  have hm2 := hes.hn
  have hmc := hes.hc
  have hal0 : alR l [] = (l, 0, 0) := by
    unfold alR
    have : alErr l [] = 0 := by unfold alErr; rw [if_neg (by rw [check_of G]; simp), if_neg (by simp)]
    rw [if_neg (by rw [this]; simp)]
    rfl
  have HA0 := Lib.hid (all_any A n c l q none 0 0 [] w0 B (hl.below hb0 hB) Sl.nil (Nat.le_trans hB hb0.size))
  have hl20 : es = [] → l2 = l := fun e => by subst e; rw [hal0] at hal; exact (congrArg Prod.fst hal).symm
  have HAL := Lib.hid (fun (W : World) (A5 : Option Addr) (c5 : Nat) (hW : Below w.heap.size w W) (hd : Sl tNd W (rg (w.heap.size + 2) W.heap.size) A5 l.length c5 l) => (all_any A5 l.length c5 l q A2 m2 c2 es W W.heap.size (Sl.ltr hd) ((hes.below hW hB).up (Nat.le_trans hB hW.size)) (Nat.le_refl _)).mono (R' := fun e w' => Below W.heap.size W w' ∧ ∃ A' c', e = .returned (.tuple #[.agg #[.slice A' l2.length c', .bool q], .int .i64 0, .int .i64 0]) ∧ Sl tNd w' (rg W.heap.size w'.heap.size) A' l2.length c' l2) fun e w' h => by
    obtain ⟨hb, h⟩ := h
    rw [hal] at h
    obtain ⟨_, A', c', e1, e2⟩ := h.resolve_left fun h => h.1 rfl
    exact ⟨hb, A', c', e1, e2⟩)
  have HAN := Lib.hid hal0
  have HL20 := Lib.hid hl20
  have HB0 := Lib.hid hb0
  have HX1 := Lib.hid hx1
  have HX2 := Lib.hid hx2
  have HZ0 := Lib.hid z0
  have HM2 := Lib.hid hm2
  have hm40 : m2 ≤ 40 := by omega
  have x0 := cell_blk (i := 0) (v := .slice A n c) hx1 rfl
  have x1 := cell_blk (i := 1) (v := .bool q) hx1 rfl
  clear za z0 hb0 hx1 hx2 hl hes hB G h40 hal hal0 hl20 hm2
  go_enter Tryd.func9, Tryd.ntmps9
  go_upto_region 1 with fail
  rw [← hwa, ← hw0]
  clear hwa hw0
  go_upto_region 2 with (go_at_call 19; refine HA0.out.mono ?_; rintro e w1 ⟨hb1, hp⟩; rw [HAN.out] at hp; obtain ⟨_, A1, c1, rfl, hs1⟩ := hp.resolve_left fun h => h.1 rfl; have hx11 := (hb1.block w.heap.size (by have := HZ0.out; omega)).trans HX1.out; have y0 := cell_blk (i := 0) (v := .slice A n c) hx11 rfl; have y1 := cell_blk (i := 1) (v := .bool q) hx11 rfl; have y2 := free_blk (i := 0) hx11; have y3 := free_blk (i := 1) hx11)
  obtain ⟨w2, hw2⟩ : ∃ w2, w2 = (w1.setCell ⟨w.heap.size, 0, none⟩ (.slice A1 l.length c1)).setCell ⟨w.heap.size, 1, none⟩ (.bool q) := ⟨_, rfl⟩
  have hb2 : Below w.heap.size w w2 := by rw [hw2]; exact ((HB0.out.trans (hb1.mono HB0.out.size)).setCell (Nat.le_refl _) _).setCell (Nat.le_refl _) _
  have hx12 : w2.heap[w.heap.size]? = some (.cells #[.slice A1 l.length c1, .bool q] 24 (0, 0)) := by rw [hw2]; exact set_blk (i := 1) (set_blk (i := 0) hx11 _) _
  have hx22 : w2.heap[w.heap.size + 1]? = some (.cells #[.slice none 0 0, .bool false] 24 (0, 0)) := by
    rw [hw2]
    exact (Below.heap_setCell _ _ _ _ (show w.heap.size + 1 ≠ w.heap.size by omega)).trans ((Below.heap_setCell _ _ _ _ (show w.heap.size + 1 ≠ w.heap.size by omega)).trans ((hb1.block _ (by have := HZ0.out; omega)).trans HX2.out))
  have hd2 : Sl tNd w2 (rg (w.heap.size + 2) w2.heap.size) A1 l.length c1 l := by
    rw [hw2]
    have hne : ∀ p : Addr, rg w0.heap.size w1.heap.size p.block → p.block ≠ w.heap.size := fun p hp e => by have := hp.1; have := HZ0.out; omega
    have hk := hs1.keep (w' := (w1.setCell ⟨w.heap.size, 0, none⟩ (.slice A1 l.length c1)).setCell ⟨w.heap.size, 1, none⟩ (.bool q)) fun p hp => World.cell?_of_block ((Below.heap_setCell _ _ _ _ (hne p hp)).trans (Below.heap_setCell _ _ _ _ (hne p hp)))
    refine hk.more fun b hb => ⟨by have := hb.1; have := HZ0.out; omega, ?_⟩
    have := (grown_set (w1.setCell ⟨w.heap.size, 0, none⟩ (.slice A1 l.length c1)) w.heap.size 1 (.bool q)).size
    have := (grown_set w1 w.heap.size 0 (.slice A1 l.length c1)).size
    have := hb.2
    omega
  have HR2 : Hid (∃ d A c, RnI w q l l2 es A2 m2 c2 (.slice A2 m2 c2) d A c w2) := by
    by_cases h0 : m2 = 0
    · subst h0
      have he : es = [] := List.eq_nil_of_length_eq_zero HM2.out.symm
      exact ⟨l, A1, c1, hb2, hx12, hx22, hd2, .inr ⟨A2, c2, rfl, (HL20.out he).symm⟩⟩
    · exact ⟨l, A1, c1, hb2, hx12, hx22, hd2, .inl ⟨rfl, rfl, by omega⟩⟩
  rw [← hw2]
  clear hw2 hb2 hx12 hx22 hd2 hx11 hs1 hp y0 y1 y2 y3 x0 x1 hb1 HA0 HAN HL20 HB0 HX1 HX2
  go_upto_region 4 with fail
  go_loopw [1, 7] (fun s1 s7 wr => s7 = .int .i64 0 ∧ (∃ A9 n9 c9, s1 = .slice A9 n9 c9 ∧ n9 ≤ c9) ∧ Hid (∃ d A c, RnI w q l l2 es A2 m2 c2 s1 d A c wr)) (fun s1 _ _ => lenOf s1)
  case atStart => exact ⟨rfl, ⟨_, _, _, rfl, hmc⟩, HR2⟩
  case round =>
    obtain ⟨rfl, _, HR⟩ := hrel
    obtain ⟨d, A5, c5, hR⟩ := HR.out
    have hst := hR.st
    rcases hst with ⟨rfl, rfl, hpos⟩ | ⟨A3, c3, rfl, rfl⟩
    · have k0 := cell_blk (i := 0) (v := .slice A5 d.length c5) hR.box rfl
      have k1 := cell_blk (i := 1) (v := .bool q) hR.box rfl
      have HRR := Lib.hid hR
      have HCA := Lib.hid (HAL.out wr.drew A5 c5 hR.below.drew (hR.doc.keep fun _ _ => rfl))
      have hmin : min (m2 : Int) 40 = (m2 : Int) := by omega
      clear hR HR
      go_upto_region 6 with fail
      refine wp_region_G (S := fun w' : World => w'.cell? ⟨w.heap.size, 0, none⟩ = some (.slice A5 d.length c5) ∧ w'.cell? ⟨w.heap.size, 1, none⟩ = some (.bool q)) (T := [9, 10]) (by kernel_rfl) ?_
      have hS : (fun w' : World => w'.cell? ⟨w.heap.size, 0, none⟩ = some (.slice A5 d.length c5) ∧ w'.cell? ⟨w.heap.size, 1, none⟩ = some (.bool q)) wr.drew := ⟨k0, k1⟩
      refine wpAnyG_take (i := 0) (v := ?_) rfl (by kernel_rfl) (by kernel_rfl) (by kernel_rfl) (by kernel_rfl) (fun _ _ _ h => h) hS rfl ?_ ?_
      rotate_left
      · intro w' hSw
        (try dsimp only at hSw)
        first | (go_simp; done) | (go_simp; with_reducible rfl)
      refine wpAnyG_pure (i := 1) (v := ?_) rfl (by kernel_rfl) (by kernel_rfl) (by kernel_rfl) (fun _ _ _ h => h) rfl ?_ ?_
      rotate_left
      · intro w'
        first | (go_simp; done) | (go_simp; with_reducible rfl)
      refine wpAnyG_pure (i := 2) (v := ?_) rfl (by kernel_rfl) (by kernel_rfl) (by kernel_rfl) (fun _ _ _ h => h) rfl ?_ ?_
      rotate_left
      · intro w'
        first | (go_simp; done) | (go_simp; with_reducible rfl)
      refine wpAnyG_pure (i := 3) (v := ?_) rfl (by kernel_rfl) (by kernel_rfl) (by kernel_rfl) (fun _ _ _ h => h) rfl ?_ ?_
      rotate_left
      · intro w'
        first | (go_simp; done) | (go_simp; with_reducible rfl)
      refine wpAnyG_one (i := 4) (by kernel_rfl) rfl rfl (fun K hK => ?_)
      go_simp
      go_at_call 19
      refine HCA.out.mono ?_
      rintro e w5 ⟨hb5, A6, c6, rfl, hs6⟩
      have hb56 : Below wr.heap.size wr w5 := (Below.refl _ wr).drew.trans hb5
      have hbx := (hb56.block w.heap.size (Array.getElem?_eq_some_iff.1 HRR.out.box).1).trans HRR.out.box
      have hrx := (hb56.block (w.heap.size + 1) (Array.getElem?_eq_some_iff.1 HRR.out.res).1).trans HRR.out.res
      have u0 := cell_blk (i := 0) (v := .slice A5 d.length c5) hbx rfl
      have u1 := cell_blk (i := 1) (v := .bool q) hbx rfl
      have u2 := free_blk (i := 0) hbx
      have u3 := free_blk (i := 1) hbx
      have HBX := Lib.hid hbx
      have HRX := Lib.hid hrx
      have HB56 := Lib.hid hb56
      have HS6 := Lib.hid hs6
      clear hbx hrx hb5 hb56 hs6 k0 k1
      go_wp2_with fail
      refine hK.out _ _ (fun _ _ => ⟨u0, u1⟩) ?_
      clear hK K hS
      refine wpAnyG_pure (i := 5) (v := ?_) rfl (by kernel_rfl) (by kernel_rfl) (by kernel_rfl) (fun _ _ _ h => h) rfl ?_ ?_
      rotate_left
      · intro w'
        first | (go_simp; done) | (go_simp; with_reducible rfl)
      refine wpAnyG_pure (i := 6) (v := ?_) rfl (by kernel_rfl) (by kernel_rfl) (by kernel_rfl) (fun _ _ _ h => h) rfl ?_ ?_
      rotate_left
      · intro w'
        first | (go_simp; done) | (go_simp; with_reducible rfl)
      refine wpAnyG_pure (i := 7) (v := ?_) rfl (by kernel_rfl) (by kernel_rfl) (by kernel_rfl) (fun _ _ _ h => h) rfl ?_ ?_
      rotate_left
      · intro w'
        first | (go_simp; done) | (go_simp; with_reducible rfl)
      refine wpAnyG_pure (i := 8) (v := ?_) rfl (by kernel_rfl) (by kernel_rfl) (by kernel_rfl) (fun _ _ _ h => h) rfl ?_ ?_
      rotate_left
      · intro w'
        first | (go_simp; done) | (go_simp; with_reducible rfl)
      refine wpAnyG_one (i := 9) (by kernel_rfl) rfl rfl (fun K hK => ?_)
      go_simp
      refine hK.out _ _ (fun h => absurd (by decide) h) ?_
      clear hK K
      refine wpAnyG_one (i := 10) (by kernel_rfl) rfl rfl (fun K hK => ?_)
      go_simp
      refine hK.out _ _ (fun _ h => h) ?_
      clear hK K
      refine wpAnyG_done (by kernel_rfl) ?_ _
      obtain ⟨w6, hw6⟩ : ∃ w6, w6 = (w5.setCell ⟨w.heap.size, 0, none⟩ (.slice A6 l2.length c6)).setCell ⟨w.heap.size, 1, none⟩ (.bool q) := ⟨_, rfl⟩
      have HNEW : Hid (∀ A3 c3, RnI w q d l2 es A2 m2 c2 (.slice A3 0 c3) l2 A6 c6 w6) := fun A3 c3 => by
        have hwr : w.heap.size < wr.heap.size := (Array.getElem?_eq_some_iff.1 HRR.out.box).1
        have hne : ∀ p : Addr, rg wr.drew.heap.size w5.heap.size p.block → p.block ≠ w.heap.size := fun p hp e => by have h1 : wr.heap.size ≤ p.block := hp.1; omega
        refine ⟨by rw [hw6]; exact ((HRR.out.below.trans (HB56.out.mono HRR.out.below.size)).setCell (Nat.le_refl _) _).setCell (Nat.le_refl _) _, by rw [hw6]; exact set_blk (i := 1) (set_blk (i := 0) HBX.out _) _, ?_, ?_, .inr ⟨A3, c3, rfl, rfl⟩⟩
        · rw [hw6]
          exact (Below.heap_setCell _ _ _ _ (show w.heap.size + 1 ≠ w.heap.size by omega)).trans ((Below.heap_setCell _ _ _ _ (show w.heap.size + 1 ≠ w.heap.size by omega)).trans HRX.out)
        · rw [hw6]
          have hk := HS6.out.keep (w' := (w5.setCell ⟨w.heap.size, 0, none⟩ (.slice A6 l2.length c6)).setCell ⟨w.heap.size, 1, none⟩ (.bool q)) fun p hp => World.cell?_of_block ((Below.heap_setCell _ _ _ _ (hne p hp)).trans (Below.heap_setCell _ _ _ _ (hne p hp)))
          have hwr2 : w.heap.size + 1 < wr.heap.size := (Array.getElem?_eq_some_iff.1 HRR.out.res).1
          refine hk.more fun b hb => ⟨by have h1 : wr.heap.size ≤ b := hb.1; omega, ?_⟩
          have := (grown_set (w5.setCell ⟨w.heap.size, 0, none⟩ (.slice A6 l2.length c6)) w.heap.size 1 (.bool q)).size
          have := (grown_set w5 w.heap.size 0 (.slice A6 l2.length c6)).size
          have := hb.2
          omega
      try rw [← hw6]
      clear hw6 u0 u1 u2 u3
      go_wp2_with fail
      go_roundw
      case rel => exact ⟨rfl, ⟨_, _, _, rfl, by omega⟩, _, _, _, HNEW.out _ _⟩
      case measure => simp [lenOf]; omega
    · have HRR := Lib.hid hR
      have k0 := cell_blk (i := 0) (v := .slice A5 d.length c5) hR.box rfl
      have k1 := cell_blk (i := 1) (v := .bool q) hR.box rfl
      have r0 := cell_blk (i := 0) (v := .slice none 0 0) hR.res rfl
      have r1 := cell_blk (i := 1) (v := .bool false) hR.res rfl
      have r2 := free_blk (i := 0) hR.res
      have r3 := free_blk (i := 1) hR.res
      clear hR HR
      go_wp2_with fail
      obtain ⟨W, hW⟩ : ∃ W, W = (wr.setCell ⟨w.heap.size + 1, 0, none⟩ (.slice A5 d.length c5)).setCell ⟨w.heap.size + 1, 1, none⟩ (.bool q) := ⟨_, rfl⟩
      rw [← hW]
      have hxW : W.heap[w.heap.size + 1]? = some (.cells #[.slice A5 d.length c5, .bool q] 24 (0, 0)) := by rw [hW]; exact set_blk (i := 1) (set_blk (i := 0) HRR.out.res _) _
      have q0 := cell_blk (i := 0) (v := .slice A5 d.length c5) hxW rfl
      have q1 := cell_blk (i := 1) (v := .bool q) hxW rfl
      have hbW : Below w.heap.size w W := by rw [hW]; exact (HRR.out.below.setCell (p := ⟨w.heap.size + 1, 0, none⟩) (by show w.heap.size ≤ w.heap.size + 1; omega) _).setCell (p := ⟨w.heap.size + 1, 1, none⟩) (by show w.heap.size ≤ w.heap.size + 1; omega) _
      have hdW : Sl tNd W (rg w.heap.size W.heap.size) A5 d.length c5 d := by
        rw [hW]
        have hne : ∀ p : Addr, rg (w.heap.size + 2) wr.heap.size p.block → p.block ≠ w.heap.size + 1 := fun p hp e => by have := hp.1; omega
        have hk := HRR.out.doc.keep (w' := (wr.setCell ⟨w.heap.size + 1, 0, none⟩ (.slice A5 d.length c5)).setCell ⟨w.heap.size + 1, 1, none⟩ (.bool q)) fun p hp => World.cell?_of_block ((Below.heap_setCell _ _ _ _ (hne p hp)).trans (Below.heap_setCell _ _ _ _ (hne p hp)))
        refine hk.more fun b hb => ⟨by have := hb.1; omega, ?_⟩
        have := (grown_set (wr.setCell ⟨w.heap.size + 1, 0, none⟩ (.slice A5 d.length c5)) (w.heap.size + 1) 1 (.bool q)).size
        have := (grown_set wr (w.heap.size + 1) 0 (.slice A5 d.length c5)).size
        have := hb.2
        omega
      clear hW k0 k1 r0 r1 r2 r3
      exact bodyPost_ret (v := .tuple #[.agg #[.slice A5 d.length c5, .bool q], .int .i64 0]) (by simp [results, Tryd.results9, go_sem, q0, q1]) rfl ⟨hbW, A5, c5, rfl, hdW⟩
end Go.Proofs.YtomleengbnfikaaDoor
