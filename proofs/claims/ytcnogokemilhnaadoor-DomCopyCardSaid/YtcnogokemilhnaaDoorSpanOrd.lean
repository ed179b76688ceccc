/-
The walk of span's ranger: order.
-/
import Derived.Test.YtcnogokemilhnaaDoorSpanPoint
import Derived.Test.YtcnogokemilhnaaDoorRegionG
namespace Go.Proofs.YtcnogokemilhnaaDoor
open Go.RowKit Go.Cl
attribute [local go_sem ↓] Go.wp_at_zero Go.wp_at_succ

/-- The order of two points. -/
def orderR (l : List Nd) (a b : Pt) : Int := if a.node = b.node then cmpI a.at_ b.at_ else cmpL (pathP l a) (pathP l b)
/-- A point of the tree. -/
structure PtOk (l : List Nd) (m : Nat) (a : Int) : Prop where
  node : m < l.length
  low : 0 ≤ a
  high : a ≤ 1152921504606846976
  top : topR l m = 0
set_option maxRecDepth 100000 in
set_option maxHeartbeats 4000000 in
theorem ptOrder_any (A : Option Addr) (n c : Nat) (l : List Nd) (q : Bool) (ma mb : Nat) (aa ab : Int) (w : World) (B : Nat) (hl : Sl tNd w (lt B) A n c l) (hB : B ≤ w.heap.size) (T : Tree l) (ha : PtOk l ma aa) (hb : PtOk l mb ab) :
    Calls Tryd.prog 60 #[.agg #[.slice A n c, .bool q], .agg #[.int .i64 (ma : Int), .int .i64 aa], .agg #[.int .i64 (mb : Int), .int .i64 ab]] w fun e w' => e = .returned (.int .i64 (orderR l ⟨ma, aa⟩ ⟨mb, ab⟩)) ∧ Below w.heap.size w w' := by
  obtain ⟨wa, hwa⟩ : ∃ wa, wa = w.alloc (.cells #[.slice A n c, .bool q] 106) := ⟨_, rfl⟩
  obtain ⟨wb, hwb⟩ : ∃ wb, wb = wa.alloc (.cells #[.int .i64 (ma : Int), .int .i64 aa] 57) := ⟨_, rfl⟩
  obtain ⟨w0, hw0⟩ : ∃ w0, w0 = wb.alloc (.cells #[.int .i64 (mb : Int), .int .i64 ab] 57) := ⟨_, rfl⟩
  have za : wa.heap.size = w.heap.size + 1 := by rw [hwa]; exact World.size_alloc w _
  have zb : wb.heap.size = w.heap.size + 1 + 1 := by rw [hwb, World.size_alloc, za]
  have hx1 : w0.heap[w.heap.size]? = some (.cells #[.slice A n c, .bool q] 106 (0, 0)) := by rw [hw0, Lib.alloc_old _ _ _ (by omega), hwb, Lib.alloc_old _ _ _ (by omega), hwa]; exact heap_alloc_new w _
  have hx2 : w0.heap[w.heap.size + 1]? = some (.cells #[.int .i64 (ma : Int), .int .i64 aa] 57 (0, 0)) := by rw [hw0, Lib.alloc_old _ _ _ (by omega), hwb, ← za]; exact heap_alloc_new wa _
  have hx3 : w0.heap[w.heap.size + 1 + 1]? = some (.cells #[.int .i64 (mb : Int), .int .i64 ab] 57 (0, 0)) := by rw [hw0, ← zb]; exact heap_alloc_new wb _
  have hb0 : Below w.heap.size w w0 := by rw [hw0, hwb, hwa]; exact (((Below.refl _ _).alloc (Nat.le_refl _) _).alloc (by simp) _).alloc (by simp; omega) _
  have x0 : w0.cell? ⟨w.heap.size, 0, none⟩ = some (.slice A n c) := cell_blk hx1 rfl
  have x1 : w0.cell? ⟨w.heap.size, 1, none⟩ = some (.bool q) := cell_blk hx1 rfl
  have p0 : w0.cell? ⟨w.heap.size + 1, 0, none⟩ = some (.int .i64 (ma : Int)) := cell_blk hx2 rfl
  have p1 : w0.cell? ⟨w.heap.size + 1, 1, none⟩ = some (.int .i64 aa) := cell_blk hx2 rfl
  have r0 : w0.cell? ⟨w.heap.size + 1 + 1, 0, none⟩ = some (.int .i64 (mb : Int)) := cell_blk hx3 rfl
  have r1 : w0.cell? ⟨w.heap.size + 1 + 1, 1, none⟩ = some (.int .i64 ab) := cell_blk hx3 rfl
  have HB0 := Lib.hid hb0
  have HL := Lib.hid (hl.below hb0 hB)
  have HBW : Hid (B ≤ w0.heap.size) := Nat.le_trans hB hb0.size
  have HT := Lib.hid T
  have HPA := Lib.hid ha
  have HPB := Lib.hid hb
  clear za zb hx1 hx2 hx3 hb0 hl hB T ha hb
  go_enter Tryd.func60, Tryd.ntmps60
  go_upto_region 1 with fail
  rw [← hwa, ← hwb, ← hw0]
  clear hwa hwb hw0
  by_cases hm : ma = mb
  · have he : ((ma : Int) == (mb : Int)) = true := by rw [hm]; simp
    have hem : (ma == mb) = true := by rw [hm]; simp
    have HR := Lib.hid (show orderR l ⟨ma, aa⟩ ⟨mb, ab⟩ = cmpI aa ab from if_pos (by rw [hm]))
    have HC := Lib.hid (cmpInt_any aa ab w0)
    clear hm
    go_wp2_with (go_at_call 92; refine HC.out.mono ?_; rintro e w1 ⟨rfl, rfl⟩)
    go_ret
    exact ⟨by rw [HR.out]; rfl, HB0.out⟩
  · have he : ((ma : Int) == (mb : Int)) = false := beq_eq_false_iff_ne.2 (by omega)
    have hem : (ma == mb) = false := beq_eq_false_iff_ne.2 hm
    have HR := Lib.hid (show orderR l ⟨ma, aa⟩ ⟨mb, ab⟩ = cmpL (pathP l ⟨ma, aa⟩) (pathP l ⟨mb, ab⟩) from if_neg (by simp only; omega))
    have HPT : Hid (∀ (W : World) (m : Nat) (a : Int), Below w0.heap.size w0 W → PtOk l m a → Calls Tryd.prog 94 #[.agg #[.slice A n c, .bool q], .agg #[.int .i64 (m : Int), .int .i64 a]] W fun e w' => Below W.heap.size W w' ∧ ∃ A' c', e = .returned (.slice A' (pathP l ⟨m, a⟩).length c') ∧ Sl (tInt .i64) w' (lt w'.heap.size) A' (pathP l ⟨m, a⟩).length c' (pathP l ⟨m, a⟩)) := fun W m a hb hp =>
      (path_any A n c l q m a W B (HL.out.below hb HBW.out) (Nat.le_trans HBW.out hb.size) HT.out hp.node hp.low hp.high).mono fun e w' ⟨hb', h⟩ => by
        rcases h with ⟨h, _⟩ | ⟨_, g, c', h, hown⟩
        · exact absurd hp.top h
        · obtain ⟨A9, c9, e9, hs⟩ := OwnF.sl hown (by decide) (by have := HT.out.path_few hp.node a; show (pathP l ⟨m, a⟩).length * 8 ≤ _; omega)
          exact ⟨hb', A9, c9, by rw [h, e9], hs⟩
    obtain ⟨La, hLa⟩ : ∃ La, pathP l ⟨ma, aa⟩ = La := ⟨_, rfl⟩
    obtain ⟨Lb, hLb⟩ : ∃ Lb, pathP l ⟨mb, ab⟩ = Lb := ⟨_, rfl⟩
    have HPT1 := Lib.hid (fun W hb => HPT.out W ma aa hb HPA.out)
    have HPT2 := Lib.hid (fun W hb => HPT.out W mb ab hb HPB.out)
    rw [hLa] at HPT1 HR
    rw [hLb] at HPT2 HR
    clear hm hLa hLb HPT
    go_upto_region 3 with fail
    refine wp_region_G (S := (fun w' : World => w'.cell? ⟨w.heap.size, 0, none⟩ = some (.slice A n c) ∧ w'.cell? ⟨w.heap.size, 1, none⟩ = some (.bool q) ∧ w'.cell? ⟨w.heap.size + 1, 0, none⟩ = some (.int .i64 (ma : Int)) ∧ w'.cell? ⟨w.heap.size + 1, 1, none⟩ = some (.int .i64 aa) ∧ w'.cell? ⟨w.heap.size + 1 + 1, 0, none⟩ = some (.int .i64 (mb : Int)) ∧ w'.cell? ⟨w.heap.size + 1 + 1, 1, none⟩ = some (.int .i64 ab))) (T := []) (by kernel_rfl) ?_
    have hS : (fun w' : World => w'.cell? ⟨w.heap.size, 0, none⟩ = some (.slice A n c) ∧ w'.cell? ⟨w.heap.size, 1, none⟩ = some (.bool q) ∧ w'.cell? ⟨w.heap.size + 1, 0, none⟩ = some (.int .i64 (ma : Int)) ∧ w'.cell? ⟨w.heap.size + 1, 1, none⟩ = some (.int .i64 aa) ∧ w'.cell? ⟨w.heap.size + 1 + 1, 0, none⟩ = some (.int .i64 (mb : Int)) ∧ w'.cell? ⟨w.heap.size + 1 + 1, 1, none⟩ = some (.int .i64 ab)) w0.drew := ⟨x0, x1, p0, p1, r0, r1⟩
    refine wpAnyG_take (i := 0) (v := ?_) rfl (by kernel_rfl) (by kernel_rfl) (by kernel_rfl) (by kernel_rfl) (fun _ _ _ h => h) hS rfl ?_ ?_
    rotate_left
    · intro w' hSw
      (try dsimp only at hSw)
      first | (go_simp; done) | (go_simp; with_reducible rfl)
    refine wpAnyG_take (i := 1) (v := ?_) rfl (by kernel_rfl) (by kernel_rfl) (by kernel_rfl) (by kernel_rfl) (fun _ _ _ h => h) hS rfl ?_ ?_
    rotate_left
    · intro w' hSw
      (try dsimp only at hSw)
      first | (go_simp; done) | (go_simp; with_reducible rfl)
    refine wpAnyG_take (i := 3) (v := ?_) rfl (by kernel_rfl) (by kernel_rfl) (by kernel_rfl) (by kernel_rfl) (fun _ _ _ h => h) hS rfl ?_ ?_
    rotate_left
    · intro w' hSw
      (try dsimp only at hSw)
      first | (go_simp; done) | (go_simp; with_reducible rfl)
    refine wpAnyG_take (i := 4) (v := ?_) rfl (by kernel_rfl) (by kernel_rfl) (by kernel_rfl) (by kernel_rfl) (fun _ _ _ h => h) hS rfl ?_ ?_
    rotate_left
    · intro w' hSw
      (try dsimp only at hSw)
      first | (go_simp; done) | (go_simp; with_reducible rfl)
    refine wpAnyG_one (i := 2) (by kernel_rfl) rfl rfl (fun K hK => ?_)
    go_simp
    go_at_call 94
    refine (HPT1.out w0.drew ((Below.refl _ w0).drew)).mono ?_
    rintro e w3 ⟨hb3, A3, c3, rfl, hs3⟩
    have hb03 : Below w0.heap.size w0 w3 := ((Below.refl _ w0).drew).trans hb3
    go_wp2_with fail
    refine hK.out _ _ (fun _ _ => ⟨cell_be x0 hb03, cell_be x1 hb03, cell_be p0 hb03, cell_be p1 hb03, cell_be r0 hb03, cell_be r1 hb03⟩) ?_
    clear hK K hS
    refine wpAnyG_one (i := 5) (by kernel_rfl) rfl rfl (fun K hK => ?_)
    go_simp
    go_at_call 94
    refine (HPT2.out w3 hb03).mono ?_
    rintro e w4 ⟨hb4, A4, c4, rfl, hs4⟩
    have hb04 : Below w0.heap.size w0 w4 := hb03.trans (hb4.mono hb03.size)
    have HC := Lib.hid (slCompare_any A3 La.length c3 La A4 Lb.length c4 Lb w4 _ _ (hs3.below hb4 (Nat.le_refl _)) hs4)
    have HBF := Lib.hid (HB0.out.trans (hb04.mono HB0.out.size))
    go_wp2_with fail
    refine hK.out _ _ (fun _ _ => ⟨cell_be x0 hb04, cell_be x1 hb04, cell_be p0 hb04, cell_be p1 hb04, cell_be r0 hb04, cell_be r1 hb04⟩) ?_
    clear hK K
    refine wpAnyG_one (i := 6) (by kernel_rfl) rfl rfl (fun K hK => ?_)
    go_simp
    go_at_call 93
    refine HC.out.mono ?_
    rintro e w5 ⟨rfl, rfl⟩
    go_wp2_with fail
    refine hK.out _ _ (fun _ h => h) ?_
    clear hK K hs3 hs4 hb3 hb4 hb03 hb04
    refine wpAnyG_one (i := 7) (by kernel_rfl) rfl rfl (fun K hK => ?_)
    go_simp
    refine hK.out _ _ (fun _ h => h) ?_
    clear hK K
    refine wpAnyG_done (by kernel_rfl) ?_ _
    go_wp2_with fail
    go_ret
    exact ⟨by rw [HR.out]; rfl, HBF.out⟩
end Go.Proofs.YtcnogokemilhnaaDoor
