/-
The walk of the laws' helper sameDoc, on a document twice.
-/
import Derived.Test.YtfeighclpaijoaaGreatDoorSameInts
import Derived.Test.YtfeighclpaijoaaGreatDoorRegionG
import Derived.Test.YtfeighclpaijoaaGreatDoorDocBox
import Derived.Deep.DeepCutAuto
namespace Go.Proofs.YtfeighclpaijoaaGreatDoor
open Go.RowKit Go.Cl
attribute [local go_sem ↓] Go.wp_at_zero Go.wp_at_succ

/-- Two nodes in boxes of their own. -/
def TwoAt (wr : World) (n1 n2 : List Value) (v u : Value) (wx : World) : Prop :=
  ∃ O1 O2, v = .pointer (some ⟨O1, 0, none⟩) ∧ u = .pointer (some ⟨O2, 0, none⟩) ∧ Below wr.heap.size wr wx ∧ wx.heap[O1]? = some (.cells n1.toArray 43 (0, 0)) ∧ wx.heap[O2]? = some (.cells n2.toArray 43 (0, 0))
theorem two_new (wr : World) (a b : Array Value) (e : TypeId) : Below wr.heap.size wr ((wr.alloc (.cells a e)).alloc (.cells b e)).drew ∧ ((wr.alloc (.cells a e)).alloc (.cells b e)).drew.heap[wr.heap.size]? = some (.cells a e (0, 0)) ∧ ((wr.alloc (.cells a e)).alloc (.cells b e)).drew.heap[wr.heap.size + 1]? = some (.cells b e (0, 0)) := by
  refine ⟨(((Below.refl _ wr).alloc (Nat.le_refl _) _).alloc (by simp) _).drew, ?_, ?_⟩
  · exact (Lib.alloc_old _ _ _ (by simp)).trans (heap_alloc_new wr _)
  · have h := heap_alloc_new (wr.alloc (.cells a e)) (.cells b e)
    rw [World.size_alloc] at h
    exact h
set_option maxRecDepth 100000 in
set_option maxHeartbeats 4000000 in
theorem sameDoc_same (A : Option Addr) (n c : Nat) (A2 : Option Addr) (c2 : Nat) (l : List Nd) (q : Bool) (w : World) (B : Nat) (h1 : Sl tNd w (lt B) A n c l) (h2 : Sl tNd w (lt B) A2 n c2 l) (hB : B ≤ w.heap.size) :
    Calls Tryz.prog 11 #[.agg #[.slice A n c, .bool q], .agg #[.slice A2 n c2, .bool q]] w fun e w' => e = .returned (.bool true) ∧ Below w.heap.size w w' := by
  obtain ⟨wa, hwa⟩ : ∃ wa, wa = w.alloc (.cells #[.slice A n c, .bool q] 24) := ⟨_, rfl⟩
  obtain ⟨w0, hw0⟩ : ∃ w0, w0 = wa.alloc (.cells #[.slice A2 n c2, .bool q] 24) := ⟨_, rfl⟩
  have za : wa.heap.size = w.heap.size + 1 := by rw [hwa]; exact World.size_alloc w _
  have z0 : w0.heap.size = w.heap.size + 2 := by rw [hw0, World.size_alloc, za]
  have hxa : wa.heap[w.heap.size]? = some (.cells #[.slice A n c, .bool q] 24 (0, 0)) := by rw [hwa]; exact heap_alloc_new w _
  have hx2 : w0.heap[w.heap.size + 1]? = some (.cells #[.slice A2 n c2, .bool q] 24 (0, 0)) := by rw [hw0, ← za]; exact heap_alloc_new wa _
  have hx1 : w0.heap[w.heap.size]? = some (.cells #[.slice A n c, .bool q] 24 (0, 0)) := by rw [hw0, Lib.alloc_old _ _ _ (by omega)]; exact hxa
  have hb0 : Below w.heap.size w w0 := by rw [hw0, hwa]; exact ((Below.refl _ _).alloc (Nat.le_refl _) _).alloc (by simp) _
  have HX1 := Lib.hid hx1
  have HX2 := Lib.hid hx2
  have HB0 := Lib.hid hb0
  have HZ := Lib.hid z0
  have H1 := Lib.hid h1
  have H2 := Lib.hid h2
  have HN := Lib.hid h1.hn
  have hn1 := h1.small
  have hc1 := h1.hc
  have hc2 := h2.hc
  have x0 := cell_blk (i := 0) hx1 rfl
  have x1 := cell_blk (i := 1) hx1 rfl
  have y0 := cell_blk (i := 0) hx2 rfl
  have y1 := cell_blk (i := 1) hx2 rfl
  have hnn : ((n : Int) != (n : Int)) = false := by simp
  have hqq : (q != q) = false := by simp
  clear za z0 hxa hx1 hx2 hb0 h1 h2
  go_enter Tryz.func11, Tryz.ntmps11
  go_upto_region 1 with fail
  rw [← hwa, ← hw0]
  clear hwa hw0
  go_upto_region 4 with fail
  clear x0 x1 y0 y1
  go_loopw [5] (fun s wr => ∃ i : Nat, i ≤ n ∧ s = .int .i64 (i : Int) ∧ Hid (Below w0.heap.size w0 wr)) (fun s _ => n - (intOf s).toNat)
  case atStart => exact ⟨0, Nat.zero_le _, rfl, Lib.hid (Below.refl _ _)⟩
  case round =>
    obtain ⟨i, hi, rfl, HR⟩ := hrel
    have HB := Lib.hid (HB0.out.trans (HR.out.mono HB0.out.size))
    have hz := HZ.out
    have hxr1 := (HR.out.block w.heap.size (by omega)).trans HX1.out
    have hxr2 := (HR.out.block (w.heap.size + 1) (by omega)).trans HX2.out
    have x0 := cell_blk (i := 0) hxr1 rfl
    have y0 := cell_blk (i := 0) hxr2 rfl
    by_cases hlt : i < n
    · obtain ⟨x, hx⟩ : ∃ x, l[i]? = some x := get_some (by have := HN.out; omega)
      obtain ⟨b1, o1, Aa, na, ca, Ak, nk, ck, rfl, hb1, hn1', hcc1⟩ := Sl.nd (H1.out.below HB.out hB) hx
      obtain ⟨b2, o2, Aa2, na2, ca2, Ak2, nk2, ck2, rfl, hb2, hn2', hcc2⟩ := Sl.nd (H2.out.below HB.out hB) hx
      obtain rfl : na = na2 := by rw [hn1'.attrs.hn, hn2'.attrs.hn]
      obtain rfl : nk = nk2 := by rw [hn1'.kids.hn, hn2'.kids.hn]
      have p0 : wr.cell? ⟨b1, o1 + i * 6, none⟩ = some (.int .i64 x.kind) := by exact hcc1 0 _ rfl
      have p1 : wr.cell? ⟨b1, o1 + i * 6 + 1, none⟩ = some (.string x.name) := by rw [Nat.add_assoc]; exact hcc1 1 _ rfl
      have p2 : wr.cell? ⟨b1, o1 + i * 6 + 2, none⟩ = some (.slice Aa na ca) := by rw [Nat.add_assoc]; exact hcc1 2 _ rfl
      have p3 : wr.cell? ⟨b1, o1 + i * 6 + 3, none⟩ = some (.string x.text) := by rw [Nat.add_assoc]; exact hcc1 3 _ rfl
      have p4 : wr.cell? ⟨b1, o1 + i * 6 + 4, none⟩ = some (.int .i64 x.parent) := by rw [Nat.add_assoc]; exact hcc1 4 _ rfl
      have p5 : wr.cell? ⟨b1, o1 + i * 6 + 5, none⟩ = some (.slice Ak nk ck) := by rw [Nat.add_assoc]; exact hcc1 5 _ rfl
      have d0 : wr.cell? ⟨b2, o2 + i * 6, none⟩ = some (.int .i64 x.kind) := by exact hcc2 0 _ rfl
      have d1 : wr.cell? ⟨b2, o2 + i * 6 + 1, none⟩ = some (.string x.name) := by rw [Nat.add_assoc]; exact hcc2 1 _ rfl
      have d2 : wr.cell? ⟨b2, o2 + i * 6 + 2, none⟩ = some (.slice Aa2 na ca2) := by rw [Nat.add_assoc]; exact hcc2 2 _ rfl
      have d3 : wr.cell? ⟨b2, o2 + i * 6 + 3, none⟩ = some (.string x.text) := by rw [Nat.add_assoc]; exact hcc2 3 _ rfl
      have d4 : wr.cell? ⟨b2, o2 + i * 6 + 4, none⟩ = some (.int .i64 x.parent) := by rw [Nat.add_assoc]; exact hcc2 4 _ rfl
      have d5 : wr.cell? ⟨b2, o2 + i * 6 + 5, none⟩ = some (.slice Ak2 nk ck2) := by rw [Nat.add_assoc]; exact hcc2 5 _ rfl
      have i1 : (0 : Int) ≤ (i : Int) := by omega
      have i2 : (i : Int) < (n : Int) := by omega
      have hii : decide (i < n) = true := decide_eq_true hlt
      have HND1 := Lib.hid hn1'
      have HND2 := Lib.hid hn2'
      clear hn1' hn2' hcc1 hcc2 hx hxr1 hxr2 hz
      go_upto_region 6 with fail
      go_cut [6, 7] (fun v u wx => TwoAt wr [.int .i64 x.kind, .string x.name, .slice Aa na ca, .string x.text, .int .i64 x.parent, .slice Ak nk ck] [.int .i64 x.kind, .string x.name, .slice Aa2 na ca2, .string x.text, .int .i64 x.parent, .slice Ak2 nk ck2] v u wx)
      case first =>
        refine wp_region_G (S := (fun w' : World => w'.cell? ⟨w.heap.size, 0, none⟩ = some (.slice (some ⟨b1, o1, none⟩) n c) ∧ w'.cell? ⟨w.heap.size + 1, 0, none⟩ = some (.slice (some ⟨b2, o2, none⟩) n c2) ∧ w'.cell? ⟨b1, o1 + i * 6, none⟩ = some (.int .i64 x.kind) ∧ w'.cell? ⟨b1, o1 + i * 6 + 1, none⟩ = some (.string x.name) ∧ w'.cell? ⟨b1, o1 + i * 6 + 2, none⟩ = some (.slice Aa na ca) ∧ w'.cell? ⟨b1, o1 + i * 6 + 3, none⟩ = some (.string x.text) ∧ w'.cell? ⟨b1, o1 + i * 6 + 4, none⟩ = some (.int .i64 x.parent) ∧ w'.cell? ⟨b1, o1 + i * 6 + 5, none⟩ = some (.slice Ak nk ck) ∧ w'.cell? ⟨b2, o2 + i * 6, none⟩ = some (.int .i64 x.kind) ∧ w'.cell? ⟨b2, o2 + i * 6 + 1, none⟩ = some (.string x.name) ∧ w'.cell? ⟨b2, o2 + i * 6 + 2, none⟩ = some (.slice Aa2 na ca2) ∧ w'.cell? ⟨b2, o2 + i * 6 + 3, none⟩ = some (.string x.text) ∧ w'.cell? ⟨b2, o2 + i * 6 + 4, none⟩ = some (.int .i64 x.parent) ∧ w'.cell? ⟨b2, o2 + i * 6 + 5, none⟩ = some (.slice Ak2 nk ck2))) (T := []) (by kernel_rfl) ?_
        have hS : (fun w' : World => w'.cell? ⟨w.heap.size, 0, none⟩ = some (.slice (some ⟨b1, o1, none⟩) n c) ∧ w'.cell? ⟨w.heap.size + 1, 0, none⟩ = some (.slice (some ⟨b2, o2, none⟩) n c2) ∧ w'.cell? ⟨b1, o1 + i * 6, none⟩ = some (.int .i64 x.kind) ∧ w'.cell? ⟨b1, o1 + i * 6 + 1, none⟩ = some (.string x.name) ∧ w'.cell? ⟨b1, o1 + i * 6 + 2, none⟩ = some (.slice Aa na ca) ∧ w'.cell? ⟨b1, o1 + i * 6 + 3, none⟩ = some (.string x.text) ∧ w'.cell? ⟨b1, o1 + i * 6 + 4, none⟩ = some (.int .i64 x.parent) ∧ w'.cell? ⟨b1, o1 + i * 6 + 5, none⟩ = some (.slice Ak nk ck) ∧ w'.cell? ⟨b2, o2 + i * 6, none⟩ = some (.int .i64 x.kind) ∧ w'.cell? ⟨b2, o2 + i * 6 + 1, none⟩ = some (.string x.name) ∧ w'.cell? ⟨b2, o2 + i * 6 + 2, none⟩ = some (.slice Aa2 na ca2) ∧ w'.cell? ⟨b2, o2 + i * 6 + 3, none⟩ = some (.string x.text) ∧ w'.cell? ⟨b2, o2 + i * 6 + 4, none⟩ = some (.int .i64 x.parent) ∧ w'.cell? ⟨b2, o2 + i * 6 + 5, none⟩ = some (.slice Ak2 nk ck2)) wr.drew := ⟨x0, y0, p0, p1, p2, p3, p4, p5, d0, d1, d2, d3, d4, d5⟩
        refine wpAnyG_pure (i := 0) (v := ?_) rfl (by kernel_rfl) (by kernel_rfl) (by kernel_rfl) (fun _ _ _ h => h) rfl ?_ ?_
        rotate_left
        · intro w'
          first | (go_simp; done) | (go_simp; with_reducible rfl)
        refine wpAnyG_take (i := 1) (v := ?_) rfl (by kernel_rfl) (by kernel_rfl) (by kernel_rfl) (by kernel_rfl) (fun _ _ _ h => h) hS rfl ?_ ?_
        rotate_left
        · intro w' hSw
          (try dsimp only at hSw)
          first | (go_simp; done) | (go_simp; with_reducible rfl)
        refine wpAnyG_pure (i := 2) (v := ?_) rfl (by kernel_rfl) (by kernel_rfl) (by kernel_rfl) (fun _ _ _ h => h) rfl ?_ ?_
        rotate_left
        · intro w'
          first | (go_simp; done) | (go_simp; with_reducible rfl)
        refine wpAnyG_pure (i := 3) (v := ?_) rfl (by kernel_rfl) (by kernel_rfl) (by kernel_rfl) (fun _ _ _ h => h) rfl ?_ ?_
        rotate_left
        · intro w'
          first | (go_simp; done) | (go_simp; with_reducible rfl)
        refine wpAnyG_take (i := 4) (v := ?_) rfl (by kernel_rfl) (by kernel_rfl) (by kernel_rfl) (by kernel_rfl) (fun _ _ _ h => h) hS rfl ?_ ?_
        rotate_left
        · intro w' hSw
          (try dsimp only at hSw)
          first | (go_simp; done) | (go_simp; with_reducible rfl)
        refine wpAnyG_pure (i := 5) (v := ?_) rfl (by kernel_rfl) (by kernel_rfl) (by kernel_rfl) (fun _ _ _ h => h) rfl ?_ ?_
        rotate_left
        · intro w'
          first | (go_simp; done) | (go_simp; with_reducible rfl)
        refine wpAnyG_take (i := 6) (v := ?_) rfl (by kernel_rfl) (by kernel_rfl) (by kernel_rfl) (by kernel_rfl) (fun _ _ _ h => h) hS rfl ?_ ?_
        rotate_left
        · intro w' hSw
          (try dsimp only at hSw)
          first | (go_simp; done) | (go_simp; with_reducible rfl)
        refine wpAnyG_pure (i := 7) (v := ?_) rfl (by kernel_rfl) (by kernel_rfl) (by kernel_rfl) (fun _ _ _ h => h) rfl ?_ ?_
        rotate_left
        · intro w'
          first | (go_simp; done) | (go_simp; with_reducible rfl)
        refine wpAnyG_pure (i := 8) (v := ?_) rfl (by kernel_rfl) (by kernel_rfl) (by kernel_rfl) (fun _ _ _ h => h) rfl ?_ ?_
        rotate_left
        · intro w'
          first | (go_simp; done) | (go_simp; with_reducible rfl)
        refine wpAnyG_take (i := 9) (v := ?_) rfl (by kernel_rfl) (by kernel_rfl) (by kernel_rfl) (by kernel_rfl) (fun _ _ _ h => h) hS rfl ?_ ?_
        rotate_left
        · intro w' hSw
          (try dsimp only at hSw)
          first | (go_simp; done) | (go_simp; with_reducible rfl)
        refine wpAnyG_two (i := 10) (j := 11) (by kernel_rfl) rfl rfl rfl rfl (fun K hK => ?_) (fun K hK => ?_)
        · go_simp
          refine hK.out _ _ (fun _ _ => ⟨cell_al (w := wr.drew) x0 _, cell_al (w := wr.drew) y0 _, cell_al (w := wr.drew) p0 _, cell_al (w := wr.drew) p1 _, cell_al (w := wr.drew) p2 _, cell_al (w := wr.drew) p3 _, cell_al (w := wr.drew) p4 _, cell_al (w := wr.drew) p5 _, cell_al (w := wr.drew) d0 _, cell_al (w := wr.drew) d1 _, cell_al (w := wr.drew) d2 _, cell_al (w := wr.drew) d3 _, cell_al (w := wr.drew) d4 _, cell_al (w := wr.drew) d5 _⟩) ?_
          clear hK K hS
          refine wpAnyG_one (i := 11) (by kernel_rfl) rfl rfl (fun K hK => ?_)
          go_simp
          refine hK.out _ _ (fun _ _ => ⟨cell_al (cell_al (w := wr.drew) x0 _) _, cell_al (cell_al (w := wr.drew) y0 _) _, cell_al (cell_al (w := wr.drew) p0 _) _, cell_al (cell_al (w := wr.drew) p1 _) _, cell_al (cell_al (w := wr.drew) p2 _) _, cell_al (cell_al (w := wr.drew) p3 _) _, cell_al (cell_al (w := wr.drew) p4 _) _, cell_al (cell_al (w := wr.drew) p5 _) _, cell_al (cell_al (w := wr.drew) d0 _) _, cell_al (cell_al (w := wr.drew) d1 _) _, cell_al (cell_al (w := wr.drew) d2 _) _, cell_al (cell_al (w := wr.drew) d3 _) _, cell_al (cell_al (w := wr.drew) d4 _) _, cell_al (cell_al (w := wr.drew) d5 _) _⟩) ?_
          clear hK K
          refine wpAnyG_one (i := 12) (by kernel_rfl) rfl rfl (fun K hK => ?_)
          go_simp
          refine hK.out _ _ (fun _ _ => ⟨cell_al (cell_al (w := wr.drew) x0 _) _, cell_al (cell_al (w := wr.drew) y0 _) _, cell_al (cell_al (w := wr.drew) p0 _) _, cell_al (cell_al (w := wr.drew) p1 _) _, cell_al (cell_al (w := wr.drew) p2 _) _, cell_al (cell_al (w := wr.drew) p3 _) _, cell_al (cell_al (w := wr.drew) p4 _) _, cell_al (cell_al (w := wr.drew) p5 _) _, cell_al (cell_al (w := wr.drew) d0 _) _, cell_al (cell_al (w := wr.drew) d1 _) _, cell_al (cell_al (w := wr.drew) d2 _) _, cell_al (cell_al (w := wr.drew) d3 _) _, cell_al (cell_al (w := wr.drew) d4 _) _, cell_al (cell_al (w := wr.drew) d5 _) _⟩) ?_
          clear hK K
          refine wpAnyG_one (i := 13) (by kernel_rfl) rfl rfl (fun K hK => ?_)
          go_simp
          refine hK.out _ _ (fun _ _ => ⟨cell_al (cell_al (w := wr.drew) x0 _) _, cell_al (cell_al (w := wr.drew) y0 _) _, cell_al (cell_al (w := wr.drew) p0 _) _, cell_al (cell_al (w := wr.drew) p1 _) _, cell_al (cell_al (w := wr.drew) p2 _) _, cell_al (cell_al (w := wr.drew) p3 _) _, cell_al (cell_al (w := wr.drew) p4 _) _, cell_al (cell_al (w := wr.drew) p5 _) _, cell_al (cell_al (w := wr.drew) d0 _) _, cell_al (cell_al (w := wr.drew) d1 _) _, cell_al (cell_al (w := wr.drew) d2 _) _, cell_al (cell_al (w := wr.drew) d3 _) _, cell_al (cell_al (w := wr.drew) d4 _) _, cell_al (cell_al (w := wr.drew) d5 _) _⟩) ?_
          clear hK K
          refine wpAnyG_done (by kernel_rfl) ?_ _
          go_wp2_with fail
          go_meet
          case rel => exact ⟨wr.heap.size, wr.heap.size + 1, rfl, rfl, (two_new wr _ _ _).1, (two_new wr _ _ _).2.1, (two_new wr _ _ _).2.2⟩
        · go_simp
          refine hK.out _ _ (fun _ _ => ⟨cell_al (w := wr.drew) x0 _, cell_al (w := wr.drew) y0 _, cell_al (w := wr.drew) p0 _, cell_al (w := wr.drew) p1 _, cell_al (w := wr.drew) p2 _, cell_al (w := wr.drew) p3 _, cell_al (w := wr.drew) p4 _, cell_al (w := wr.drew) p5 _, cell_al (w := wr.drew) d0 _, cell_al (w := wr.drew) d1 _, cell_al (w := wr.drew) d2 _, cell_al (w := wr.drew) d3 _, cell_al (w := wr.drew) d4 _, cell_al (w := wr.drew) d5 _⟩) ?_
          clear hK K hS
          refine wpAnyG_one (i := 10) (by kernel_rfl) rfl rfl (fun K hK => ?_)
          go_simp
          refine hK.out _ _ (fun _ _ => ⟨cell_al (cell_al (w := wr.drew) x0 _) _, cell_al (cell_al (w := wr.drew) y0 _) _, cell_al (cell_al (w := wr.drew) p0 _) _, cell_al (cell_al (w := wr.drew) p1 _) _, cell_al (cell_al (w := wr.drew) p2 _) _, cell_al (cell_al (w := wr.drew) p3 _) _, cell_al (cell_al (w := wr.drew) p4 _) _, cell_al (cell_al (w := wr.drew) p5 _) _, cell_al (cell_al (w := wr.drew) d0 _) _, cell_al (cell_al (w := wr.drew) d1 _) _, cell_al (cell_al (w := wr.drew) d2 _) _, cell_al (cell_al (w := wr.drew) d3 _) _, cell_al (cell_al (w := wr.drew) d4 _) _, cell_al (cell_al (w := wr.drew) d5 _) _⟩) ?_
          clear hK K
          refine wpAnyG_one (i := 12) (by kernel_rfl) rfl rfl (fun K hK => ?_)
          go_simp
          refine hK.out _ _ (fun _ _ => ⟨cell_al (cell_al (w := wr.drew) x0 _) _, cell_al (cell_al (w := wr.drew) y0 _) _, cell_al (cell_al (w := wr.drew) p0 _) _, cell_al (cell_al (w := wr.drew) p1 _) _, cell_al (cell_al (w := wr.drew) p2 _) _, cell_al (cell_al (w := wr.drew) p3 _) _, cell_al (cell_al (w := wr.drew) p4 _) _, cell_al (cell_al (w := wr.drew) p5 _) _, cell_al (cell_al (w := wr.drew) d0 _) _, cell_al (cell_al (w := wr.drew) d1 _) _, cell_al (cell_al (w := wr.drew) d2 _) _, cell_al (cell_al (w := wr.drew) d3 _) _, cell_al (cell_al (w := wr.drew) d4 _) _, cell_al (cell_al (w := wr.drew) d5 _) _⟩) ?_
          clear hK K
          refine wpAnyG_one (i := 13) (by kernel_rfl) rfl rfl (fun K hK => ?_)
          go_simp
          refine hK.out _ _ (fun _ _ => ⟨cell_al (cell_al (w := wr.drew) x0 _) _, cell_al (cell_al (w := wr.drew) y0 _) _, cell_al (cell_al (w := wr.drew) p0 _) _, cell_al (cell_al (w := wr.drew) p1 _) _, cell_al (cell_al (w := wr.drew) p2 _) _, cell_al (cell_al (w := wr.drew) p3 _) _, cell_al (cell_al (w := wr.drew) p4 _) _, cell_al (cell_al (w := wr.drew) p5 _) _, cell_al (cell_al (w := wr.drew) d0 _) _, cell_al (cell_al (w := wr.drew) d1 _) _, cell_al (cell_al (w := wr.drew) d2 _) _, cell_al (cell_al (w := wr.drew) d3 _) _, cell_al (cell_al (w := wr.drew) d4 _) _, cell_al (cell_al (w := wr.drew) d5 _) _⟩) ?_
          clear hK K
          refine wpAnyG_done (by kernel_rfl) ?_ _
          go_wp2_with fail
          go_meet
          case rel => exact ⟨wr.heap.size + 1, wr.heap.size, rfl, rfl, (two_new wr _ _ _).1, (two_new wr _ _ _).2.2, (two_new wr _ _ _).2.1⟩
      case rest =>
        obtain ⟨O1, O2, rfl, rfl, hbw, ho1, ho2⟩ := hcut
        have HBW := Lib.hid hbw
        have HSM := Lib.hid (sameInts_any Ak nk ck x.kids Ak2 nk ck2 x.kids wc B ((HND1.out.kids.below hbw (Nat.le_trans hB HB.out.size))) ((HND2.out.kids.below hbw (Nat.le_trans hB HB.out.size))) (Nat.le_trans hB (Nat.le_trans HB.out.size hbw.size)))
        rw [same_true rfl] at HSM
        have a0 := cell_blk (i := 0) ho1 rfl
        have a1 := cell_blk (i := 1) ho1 rfl
        have a2 := cell_blk (i := 2) ho1 rfl
        have a3 := cell_blk (i := 3) ho1 rfl
        have a4 := cell_blk (i := 4) ho1 rfl
        have a5 := cell_blk (i := 5) ho1 rfl
        have c0 := cell_blk (i := 0) ho2 rfl
        have c1 := cell_blk (i := 1) ho2 rfl
        have c2 := cell_blk (i := 2) ho2 rfl
        have c3 := cell_blk (i := 3) ho2 rfl
        have c4 := cell_blk (i := 4) ho2 rfl
        have c5 := cell_blk (i := 5) ho2 rfl
        have HO1 := Lib.hid ho1
        have HO2 := Lib.hid ho2
        have hna := HND1.out.attrs.small
        have hnc1 := HND1.out.attrs.hc
        have hnc2 := HND2.out.attrs.hc
        have HNA := Lib.hid HND1.out.attrs.hn
        have kk : (x.kind != x.kind) = false := by simp
        have pp : (x.parent != x.parent) = false := by simp
        have aa : ((na : Int) != (na : Int)) = false := by simp
        clear ho1 ho2 hbw x0 y0 p0 p1 p2 p3 p4 p5 d0 d1 d2 d3 d4 d5
        go_upto_region 10 with (go_at_call 22; refine HSM.out.mono ?_; rintro e w3 ⟨rfl, hb3⟩)
        have HB3 := Lib.hid (HBW.out.trans (hb3.mono HBW.out.size))
        have HC3 := Lib.hid hb3
        clear hb3 a0 a1 a2 a3 a4 a5 c0 c1 c2 c3 c4 c5 HSM
        obtain ⟨wo, hwo⟩ : ∃ wo : World, wo = wr := ⟨_, rfl⟩
        rw [← hwo] at HB3 HR HB HND1 HND2 HBW
        clear hwo
        go_loopw [8] (fun s wz => ∃ j : Nat, j ≤ na ∧ s = .int .i64 (j : Int) ∧ Hid (Below w3.heap.size w3 wz)) (fun s _ => na - (intOf s).toNat)
        case atStart => exact ⟨0, Nat.zero_le _, rfl, Lib.hid (Below.refl _ _)⟩
        case round =>
          obtain ⟨j, hj, rfl, HJ⟩ := hrel
          have hbj : Below wo.heap.size wo wr := HB3.out.trans (HJ.out.mono HB3.out.size)
          have hbc : Below wc.heap.size wc wr := HC3.out.trans (HJ.out.mono HC3.out.size)
          have HBJ := Lib.hid hbj
          have a2 := cell_blk (i := 2) ((hbc.block O1 (Array.getElem?_eq_some_iff.1 HO1.out).1).trans HO1.out) rfl
          have c2 := cell_blk (i := 2) ((hbc.block O2 (Array.getElem?_eq_some_iff.1 HO2.out).1).trans HO2.out) rfl
          by_cases hlt2 : j < na
          · obtain ⟨at1, hat⟩ : ∃ at1, x.attrs[j]? = some at1 := get_some (by have := HNA.out; omega)
            obtain ⟨g1, og1, cs1, rfl, _, hr1, hcs1⟩ := (HND1.out.attrs.below hbj (Nat.le_trans hB HB.out.size)).get hat
            obtain ⟨g2, og2, cs2, rfl, _, hr2, hcs2⟩ := (HND2.out.attrs.below hbj (Nat.le_trans hB HB.out.size)).get hat
            obtain ⟨_, _, rfl, ⟨rfl, _⟩, rfl, _⟩ := hr1
            obtain ⟨_, _, rfl, ⟨rfl, _⟩, rfl, _⟩ := hr2
            have s0 : wr.cell? ⟨g1, og1 + j * 2, none⟩ = some (.string at1.1) := hcs1 0 _ rfl
            have s1 : wr.cell? ⟨g1, og1 + j * 2 + 1, none⟩ = some (.string at1.2) := by rw [Nat.add_assoc]; exact hcs1 1 _ rfl
            have t0 : wr.cell? ⟨g2, og2 + j * 2, none⟩ = some (.string at1.1) := hcs2 0 _ rfl
            have t1 : wr.cell? ⟨g2, og2 + j * 2 + 1, none⟩ = some (.string at1.2) := by rw [Nat.add_assoc]; exact hcs2 1 _ rfl
            have j1 : (0 : Int) ≤ (j : Int) := by omega
            have j2 : (j : Int) < (na : Int) := by omega
            clear hcs1 hcs2 hat hbj hbc
            go_upto_region 12 with fail
            go_quiet (fail)
            generalize hwz : wr.drewN _ = wz
            have HBZ : Hid (Below w3.heap.size w3 wz) := by rw [← hwz]; exact below_dN HJ.out _
            clear hwz
            go_wp2_with fail
            go_roundw
            case rel => exact ⟨j + 1, by omega, by go_num, HBZ⟩
            case measure => simp [intOf]; omega
          · clear hbj hbc
            go_wp2_with fail
            go_roundw
            case rel => exact ⟨i + 1, by omega, by go_num, Lib.hid (HR.out.trans (HBJ.out.mono HR.out.size))⟩
            case measure => simp [intOf]; omega
    · go_wp2_with fail
      refine bodyPost_ret (v := .bool true) (by simp [results, Tryz.results11, go_sem]) rfl ⟨rfl, HB.out⟩
end Go.Proofs.YtfeighclpaijoaaGreatDoor
