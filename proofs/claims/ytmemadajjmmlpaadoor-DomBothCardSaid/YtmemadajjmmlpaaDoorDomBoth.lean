/-
The walk of DomBoth.
-/
import Derived.Test.YtmemadajjmmlpaaDoorBothLaw
import Derived.Test.YtmemadajjmmlpaaDoorSameDoc
namespace Go.Proofs.YtmemadajjmmlpaaDoor
open Go.RowKit Go.Cl
attribute [local go_sem ↓] Go.wp_at_zero Go.wp_at_succ

theorem sl_far2 {α : Type} {T : Ty α} {w : World} {D : Nat → Prop} {O : Nat} {A : Option Addr} {n c : Nat} {xs : List α} (h : Sl T w D A n c xs) (hO : ¬ D O) (i : Nat) (v : Value) : Sl T (w.setCell ⟨O, i, none⟩ v) D A n c xs :=
  h.keep fun p hp => World.cell?_setCell_other w _ p v (fun e => hO (by rw [← e] at hp; exact hp))
theorem sl_al_rg {α : Type} {T : Ty α} {w : World} {a b : Nat} {A : Option Addr} {n c : Nat} {xs : List α} (h : Sl T w (rg a b) A n c xs) (hb : b ≤ w.heap.size) (o : Obj) : Sl T (w.alloc o) (rg a b) A n c xs := h.keep fun p hp => World.cell?_alloc_lt w o p (Nat.lt_of_lt_of_le hp.2 hb)
/-- What All has told, in its variables. -/
def AlX (wr : World) (R : List Nd × Int × Int) (q : Bool) (v iv ev : Value) (wx : World) : Prop :=
  ∃ O A' c', v = .pointer (some ⟨O, 0, none⟩) ∧ iv = .int .i64 R.2.1 ∧ ev = .int .i64 R.2.2 ∧ Below wr.heap.size wr wx ∧ wx.heap[O]? = some (.cells #[.slice A' R.1.length c', .bool (alQ R q)] 24 (0, 0)) ∧ Sl tNd wx (rg wr.heap.size wx.heap.size) A' R.1.length c' R.1
set_option maxRecDepth 100000 in
set_option maxHeartbeats 3000000 in
theorem domBoth_walk (A : Option Addr) (n c : Nat) (l : List Nd) (q : Bool) (A2 : Option Addr) (m2 c2 : Nat) (es : List Edt) (A3 : Option Addr) (m3 c3 : Nat) (fs : List Edt) (w : World) (B : Nat) (hl : Sl tNd w (lt B) A n c l) (hes : Sl tEdt w (lt B) A2 m2 c2 es) (hfs : Sl tEdt w (lt B) A3 m3 c3 fs) (hB : B ≤ w.heap.size) :
    Calls Tryd.prog 5 #[.agg #[.slice A n c, .bool q], .slice A2 m2 c2, .slice A3 m3 c3] w fun e w' => e = .returned (.bool true) ∧ Below w.heap.size w w' := by
  obtain ⟨w0, hw0⟩ : ∃ w0, w0 = w.alloc (.cells #[.slice A n c, .bool q] 24) := ⟨_, rfl⟩
  have hbx : w0.heap[w.heap.size]? = some (.cells #[.slice A n c, .bool q] 24 (0, 0)) := by rw [hw0]; exact heap_alloc_new w _
  have b0 : w0.cell? ⟨w.heap.size, 0, none⟩ = some (.slice A n c) := cell_blk hbx rfl
  have b1 : w0.cell? ⟨w.heap.size, 1, none⟩ = some (.bool q) := cell_blk hbx rfl
  have hb0 : Below w.heap.size w w0 := by rw [hw0]; exact (Below.refl _ _).alloc (Nat.le_refl _) _
  have hz0 : w0.heap.size = w.heap.size + 1 := by rw [hw0]; exact World.size_alloc w _
  have HB0 := Lib.hid hb0
  have HBW : Hid (B ≤ w.heap.size) := hB
  obtain ⟨k, hk, hkc, hkn⟩ : ∃ k : Nat, min (n : Int) 60 = (k : Int) ∧ k ≤ c ∧ k ≤ n := ⟨min n 60, by omega, by have := hl.hc; omega, by omega⟩
  obtain ⟨k2, hk2, hk2n, hk220⟩ : ∃ k2 : Nat, min (m2 : Int) 20 = (k2 : Int) ∧ k2 ≤ m2 ∧ k2 ≤ 20 := ⟨min m2 20, by omega, by omega, by omega⟩
  obtain ⟨k3, hk3, hk3n, hk320⟩ : ∃ k3 : Nat, min (m3 : Int) 20 = (k3 : Int) ∧ k3 ≤ m3 ∧ k3 ≤ 20 := ⟨min m3 20, by omega, by omega, by omega⟩
  have hm2c := hes.hc
  have hm3c := hfs.hc
  have hm263 := hes.small
  have hm363 := hfs.small
  have hk2c : k2 ≤ c2 := by omega
  have hk3c : k3 ≤ c3 := by omega
  have HF := Lib.hid (few_any A n c k q 60 w0.drew hk hkc)
  have HZ0 := Lib.hid hz0
  have HL := Lib.hid (hl.cut_to hkn)
  have HES := Lib.hid (hes.cut_to hk2n)
  have HFS := Lib.hid (hfs.cut_to hk3n)
  clear hb0 hl hes hfs hB hk hz0
  go_enter Tryd.func5, Tryd.ntmps5
  go_upto_region 1 with fail
  rw [← hw0]
  clear hw0
  refine wp_region_G (S := fun w' : World => w'.cell? ⟨w.heap.size, 0, none⟩ = some (.slice A n c) ∧ w'.cell? ⟨w.heap.size, 1, none⟩ = some (.bool q)) (T := [12, 13, 14]) (by kernel_rfl) ?_
  have hS : (fun w' : World => w'.cell? ⟨w.heap.size, 0, none⟩ = some (.slice A n c) ∧ w'.cell? ⟨w.heap.size, 1, none⟩ = some (.bool q)) w0.drew := ⟨b0, b1⟩
  refine wpAnyG_take (i := 0) (v := ?_) rfl (by kernel_rfl) (by kernel_rfl) (by kernel_rfl) (by kernel_rfl) (fun _ _ _ h => h) hS rfl ?_ ?_
  rotate_left
  · intro w' hSw
    (try dsimp only at hSw)
    first | (go_simp; done) | (go_simp; with_reducible rfl)
  refine wpAnyG_pure (i := 2) (v := ?_) rfl (by kernel_rfl) (by kernel_rfl) (by kernel_rfl) (fun _ _ _ h => h) rfl ?_ ?_
  rotate_left
  · intro w'
    first | (go_simp; done) | (go_simp; with_reducible rfl)
  refine wpAnyG_pure (i := 3) (v := ?_) rfl (by kernel_rfl) (by kernel_rfl) (by kernel_rfl) (fun _ _ _ h => h) rfl ?_ ?_
  rotate_left
  · intro w'
    first | (go_simp; done) | (go_simp; with_reducible rfl)
  refine wpAnyG_pure (i := 4) (v := ?_) rfl (by kernel_rfl) (by kernel_rfl) (by kernel_rfl) (fun _ _ _ h => h) rfl ?_ ?_
  rotate_left
  · intro w'
    first | (go_simp; done) | (go_simp; with_reducible rfl)
  refine wpAnyG_pure (i := 5) (v := ?_) rfl (by kernel_rfl) (by kernel_rfl) (by kernel_rfl) (fun _ _ _ h => h) rfl ?_ ?_
  rotate_left
  · intro w'
    first | (go_simp; done) | (go_simp; with_reducible rfl)
  refine wpAnyG_pure (i := 6) (v := ?_) rfl (by kernel_rfl) (by kernel_rfl) (by kernel_rfl) (fun _ _ _ h => h) rfl ?_ ?_
  rotate_left
  · intro w'
    first | (go_simp; done) | (go_simp; with_reducible rfl)
  refine wpAnyG_pure (i := 7) (v := ?_) rfl (by kernel_rfl) (by kernel_rfl) (by kernel_rfl) (fun _ _ _ h => h) rfl ?_ ?_
  rotate_left
  · intro w'
    first | (go_simp; done) | (go_simp; with_reducible rfl)
  refine wpAnyG_pure (i := 8) (v := ?_) rfl (by kernel_rfl) (by kernel_rfl) (by kernel_rfl) (fun _ _ _ h => h) rfl ?_ ?_
  rotate_left
  · intro w'
    first | (go_simp; done) | (go_simp; with_reducible rfl)
  refine wpAnyG_pure (i := 9) (v := ?_) rfl (by kernel_rfl) (by kernel_rfl) (by kernel_rfl) (fun _ _ _ h => h) rfl ?_ ?_
  rotate_left
  · intro w'
    first | (go_simp; done) | (go_simp; with_reducible rfl)
  refine wpAnyG_pure (i := 10) (v := ?_) rfl (by kernel_rfl) (by kernel_rfl) (by kernel_rfl) (fun _ _ _ h => h) rfl ?_ ?_
  rotate_left
  · intro w'
    first | (go_simp; done) | (go_simp; with_reducible rfl)
  refine wpAnyG_pure (i := 11) (v := ?_) rfl (by kernel_rfl) (by kernel_rfl) (by kernel_rfl) (fun _ _ _ h => h) rfl ?_ ?_
  rotate_left
  · intro w'
    first | (go_simp; done) | (go_simp; with_reducible rfl)
  refine wpAnyG_one (i := 1) (by kernel_rfl) rfl rfl (fun K hK => ?_)
  go_simp
  go_at_call 12
  refine HF.out.mono ?_
  rintro e w1 ⟨rfl, hb1⟩
  have hb01 : Below w0.heap.size w0 w1 := ((Below.refl _ w0).drew).trans hb1
  have hbx1 : w1.heap[w.heap.size]? = some (.cells #[.slice A n c, .bool q] 24 (0, 0)) := (hb01.block _ (by have := HZ0.out; omega)).trans hbx
  have y0 := cell_blk (i := 0) hbx1 rfl
  have y1 := cell_blk (i := 1) hbx1 rfl
  have z0 := free_blk (i := 0) hbx1
  have z1 := free_blk (i := 1) hbx1
  go_wp2_with fail
  refine hK.out _ _ (fun _ _ => ⟨y0, y1⟩) ?_
  clear hK K hS
  refine wpAnyG_one (i := 12) (by kernel_rfl) rfl rfl (fun K hK => ?_)
  go_simp
  refine hK.out _ _ (fun h => absurd (by decide) h) ?_
  clear hK K
  obtain ⟨w2, hw2⟩ : ∃ w2, w2 = (w1.setCell ⟨w.heap.size, 0, none⟩ (.slice A k c)).setCell ⟨w.heap.size, 1, none⟩ (.bool q) := ⟨_, rfl⟩
  rw [← hw2]
  have hb2 : Below w.heap.size w w2 := by rw [hw2]; exact ((HB0.out.trans (hb01.mono HB0.out.size)).setCell (Nat.le_refl _) _).setCell (Nat.le_refl _) _
  have hbx2 : w2.heap[w.heap.size]? = some (.cells #[.slice A k c, .bool q] 24 (0, 0)) := by rw [hw2]; exact set_blk (set_blk hbx1 _) _
  have HB2 := Lib.hid hb2
  have HX2 := Lib.hid hbx2
  have HDB := Lib.hid (fun u => domBegun_any u)
  have HSZ2 : Hid (w.heap.size < w2.heap.size) := (Array.getElem?_eq_some_iff.1 hbx2).1
  clear hw2 hb01 hbx1 y0 y1 z0 z1 hb1 hb2 hbx2 hbx b0 b1 HB0 HF HZ0 hk2 hk3 hk2n hk3n hm263 hm363 hm2c hm3c
  refine wpAnyG_one (i := 13) (by kernel_rfl) rfl rfl (fun K hK => ?_)
  go_simp
  refine hK.out _ _ (fun _ h => h) ?_
  clear hK K
  refine wpAnyG_one (i := 14) (by kernel_rfl) rfl rfl (fun K hK => ?_)
  go_simp
  refine hK.out _ _ (fun _ h => h) ?_
  clear hK K
  refine wpAnyG_done (by kernel_rfl) ?_ _
  generalize l.take k = l at *
  generalize es.take k2 = es at *
  generalize fs.take k3 = fs at *
  have HEN := Lib.hid HES.out.hn
  have HFN := Lib.hid HFS.out.hn
  have x0 := cell_blk (i := 0) HX2.out rfl
  have x1 := cell_blk (i := 1) HX2.out rfl
  have HA1 := Lib.hid ((all_any A k c l q A2 k2 c2 es w2 B (HL.out.below HB2.out HBW.out) (HES.out.below HB2.out HBW.out) (Nat.le_trans HBW.out HB2.out.size)).mono fun _ _ h => al_uni h)
  obtain ⟨R1, hR1⟩ : ∃ R1, alR l es = R1 := ⟨_, rfl⟩
  rw [hR1] at HA1
  have HR1 := Lib.hid hR1
  clear hR1
  go_upto_region 3 with (go_at_call 21; refine HA1.out.mono ?_; rintro e w3 ⟨hb3, A5, c5, rfl, hs5⟩)
  obtain ⟨w4, hw4⟩ : ∃ w4, w4 = w3.alloc (.cells #[.slice A5 R1.1.length c5, .bool (alQ R1 q)] 24) := ⟨_, rfl⟩
  rw [← hw4]
  have hb34 : Below w3.heap.size w3 w4 := by rw [hw4]; exact (Below.refl _ _).alloc (Nat.le_refl _) _
  have HO1 : Hid (w4.heap[w3.heap.size]? = some (.cells #[.slice A5 R1.1.length c5, .bool (alQ R1 q)] 24 (0, 0))) := by rw [hw4]; exact heap_alloc_new w3 _
  have HB4 := Lib.hid (HB2.out.trans ((hb3.trans (hb34.mono hb3.size)).mono HB2.out.size))
  have HX4 := Lib.hid (((hb3.trans (hb34.mono hb3.size)).block _ HSZ2.out).trans HX2.out)
  have HS4 := Lib.hid (((Sl.ltr hs5).below hb34 (Nat.le_refl _)).up hb34.size)
  clear hw4 hb3 hb34 hs5 HA1 x0 x1 HX2 HB2
  by_cases he : R1.2.2 = 0
  · have hlaw := both_law (l := l) (es := es) (fs := fs) (by rw [HR1.out]; exact he) (by have := HEN.out; have := HFN.out; omega)
    rw [HR1.out] at hlaw
    have hq1 : alQ R1 q = q := by unfold alQ; rw [if_pos he]
    have HLAW := Lib.hid hlaw
    rw [hq1] at HO1
    rw [he, hq1]
    have HA2 := Lib.hid ((all_any A5 R1.1.length c5 R1.1 q A3 k3 c3 fs w4 w4.heap.size HS4.out ((HFS.out.below HB4.out HBW.out).up (Nat.le_trans HBW.out HB4.out.size)) (Nat.le_refl _)).mono fun _ _ h => al_uni h)
    have HAE := Lib.hid (fun h : (alR R1.1 fs).2.2 ≠ 0 => (alR_err h).2)
    have x0 := cell_blk (i := 0) HO1.out rfl
    have x1 := cell_blk (i := 1) HO1.out rfl
    obtain ⟨N1, hN1⟩ : ∃ N1, R1.1.length = N1 := ⟨_, rfl⟩
    rw [hN1] at HA2 x0 HO1
    rw [hN1]
    obtain ⟨R2, hR2⟩ : ∃ R2, alR R1.1 fs = R2 := ⟨_, rfl⟩
    rw [hR2] at HA2 HLAW HAE
    clear hlaw hq1 he hN1 hR2 HR1 HS4
    go_upto_region 6 with (go_at_call 21; refine HA2.out.mono ?_; rintro e w5 ⟨hb5, A6, c6, rfl, hs6⟩)
    obtain ⟨w6, hw6⟩ : ∃ w6, w6 = w5.alloc (.cells #[.slice A6 R2.1.length c6, .bool (alQ R2 q)] 24) := ⟨_, rfl⟩
    rw [← hw6]
    have hb56 : Below w5.heap.size w5 w6 := by rw [hw6]; exact (Below.refl _ _).alloc (Nat.le_refl _) _
    have hb46 : Below w4.heap.size w4 w6 := hb5.trans (hb56.mono hb5.size)
    have HO2 : Hid (w6.heap[w5.heap.size]? = some (.cells #[.slice A6 R2.1.length c6, .bool (alQ R2 q)] 24 (0, 0))) := by rw [hw6]; exact heap_alloc_new w5 _
    have HB6 := Lib.hid (HB4.out.trans (hb46.mono HB4.out.size))
    have HX6 := Lib.hid ((hb46.block _ (Array.getElem?_eq_some_iff.1 HX4.out).1).trans HX4.out)
    have HS6 := Lib.hid (((Sl.ltr hs6).below hb56 (Nat.le_refl _)).up hb56.size)
    have HBW6 : Hid (B ≤ w6.heap.size) := Nat.le_trans HBW.out HB6.out.size
    clear hw6 hb5 hb56 hb46 hs6 HA2 x0 x1 HX4 HB4
    have x0 := cell_blk (i := 0) HX6.out rfl
    have x1 := cell_blk (i := 1) HX6.out rfl
    have HE2 : Hid (∀ W, Below w6.heap.size w6 W → Sl tEdt W (lt B) A2 k2 c2 es) := fun W hb => (HES.out.below HB6.out HBW.out).below hb HBW6.out
    have HE3 : Hid (∀ W, Below w6.heap.size w6 W → Sl tEdt W (lt B) A3 k3 c3 fs) := fun W hb => (HFS.out.below HB6.out HBW.out).below hb HBW6.out
    have HAL : Hid (∀ (W : World) (A9 : Option Addr) (c9 : Nat), Below w6.heap.size w6 W → Own tEdt W w6.heap.size 59 (lt B) (.slice A9 (k2 + k3) c9) (k2 + k3) (es ++ fs) → Calls Tryd.prog 21 #[.agg #[.slice A k c, .bool q], .slice A9 (k2 + k3) c9] W (AlU W (alR l (es ++ fs)) q)) := fun W A9 c9 hb ho => by
      have hs := (Own.sl ho (by decide) (by show (k2 + k3) * 160 ≤ _; omega)).more (D' := lt W.heap.size) (fun b hb' => by
        rcases hb' with h | h
        · exact Nat.lt_of_lt_of_le h (Nat.le_trans HBW6.out hb.size)
        · exact h.2)
      exact (all_any A k c l q A9 (k2 + k3) c9 (es ++ fs) W W.heap.size (((HL.out.below HB6.out HBW.out).below hb HBW6.out).up (Nat.le_trans HBW6.out hb.size)) hs (Nat.le_refl _)).mono fun _ _ h => al_uni h
    go_cut [13, 14, 15] (fun v iv ev wx => AlX w6 (alR l (es ++ fs)) q v iv ev wx)
    case first =>
      refine wp_region_G (S := (fun w' : World => w'.cell? ⟨w.heap.size, 0, none⟩ = some (.slice A k c) ∧ w'.cell? ⟨w.heap.size, 1, none⟩ = some (.bool q))) (T := []) (by kernel_rfl) ?_
      have hS : (fun w' : World => w'.cell? ⟨w.heap.size, 0, none⟩ = some (.slice A k c) ∧ w'.cell? ⟨w.heap.size, 1, none⟩ = some (.bool q)) w6.drew := ⟨x0, x1⟩
      have HSB : Hid (∀ W, Below w6.heap.size w6 W → (fun w' : World => w'.cell? ⟨w.heap.size, 0, none⟩ = some (.slice A k c) ∧ w'.cell? ⟨w.heap.size, 1, none⟩ = some (.bool q)) W) := fun W hb => ⟨cell_be x0 hb, cell_be x1 hb⟩
      refine wpAnyG_take (i := 0) (v := ?_) rfl (by kernel_rfl) (by kernel_rfl) (by kernel_rfl) (by kernel_rfl) (fun _ _ _ h => h) hS rfl ?_ ?_
      rotate_left
      · intro w' hSw
        (try dsimp only at hSw)
        first | (go_simp; done) | (go_simp; with_reducible rfl)
      refine wpAnyG_pure (i := 2) (v := ?_) rfl (by kernel_rfl) (by kernel_rfl) (by kernel_rfl) (fun _ _ _ h => h) rfl ?_ ?_
      rotate_left
      · intro w'
        first | (go_simp; done) | (go_simp; with_reducible rfl)
      refine wpAnyG_pure (i := 4) (v := ?_) rfl (by kernel_rfl) (by kernel_rfl) (by kernel_rfl) (fun _ _ _ h => h) rfl ?_ ?_
      rotate_left
      · intro w'
        first | (go_simp; done) | (go_simp; with_reducible rfl)
      clear hS
      refine wpAnyG_world (fun W => Below w6.heap.size w6 W) ((Below.refl _ w6).drew) (fun w7 hb7 => ?_)
      have HB7 := Lib.hid hb7
      clear hb7
      refine wpAnyG_two (i := 1) (j := 11) (by kernel_rfl) rfl rfl rfl rfl (fun K hK => ?_) (fun K hK => ?_)
      · go_simp
        refine hK.out _ _ (fun _ _ => HSB.out _ (HB7.out.alloc HB7.out.size _)) ?_
        clear hK K
        refine wpAnyG_world (fun W => Below w6.heap.size w6 W ∧ Own tEdt W w6.heap.size 59 (lt B) (.slice (some ⟨w7.heap.size, 0, none⟩) 0 0) (0) (([] : List Edt))) ⟨HB7.out.alloc HB7.out.size _, ⟨[], World.ownsRow_made w7 #[] 0 HB7.out.size (by simp) (by simp), Row.nil⟩⟩ (fun w8 hJ => ?_)
        obtain ⟨hb8, ho8⟩ := hJ
        have HB8 := Lib.hid hb8
        have HO8 := Lib.hid ho8
        clear hb8 ho8
        refine wpAnyG_two (i := 3) (j := 11) (by kernel_rfl) rfl rfl rfl rfl (fun K hK => ?_) (fun K hK => ?_)
        · refine wp_apo w8 (.tmp 63) (.tmp 64) 51 rfl elemEdt rfl HO8.out HBW6.out rfl (HE2.out _ HB8.out) (nm := k2) (zs := es) (Nat.zero_add _) rfl (by omega) (by omega) HB8.out.size (fun v' W' how hgw hbw => ?_)
          obtain ⟨A9, c9, rfl⟩ := Own.form how
          refine hK.out _ _ (fun _ _ => HSB.out _ (HB8.out.trans hbw)) ?_
          clear hK K
          refine wpAnyG_world (fun W => Below w6.heap.size w6 W ∧ Own tEdt W w6.heap.size 59 (lt B) (.slice A9 (k2) c9) (k2) (es)) ⟨HB8.out.trans hbw, how⟩ (fun w9 hJ => ?_)
          obtain ⟨hb9, ho9⟩ := hJ
          have HB9 := Lib.hid hb9
          have HO9 := Lib.hid ho9
          clear hb9 ho9
          clear how hgw hbw W'
          refine wpAnyG_two (i := 5) (j := 11) (by kernel_rfl) rfl rfl rfl rfl (fun K hK => ?_) (fun K hK => ?_)
          · refine wp_apo w9 (.tmp 65) (.tmp 66) 51 rfl elemEdt rfl HO9.out HBW6.out rfl (HE3.out _ HB9.out) (nm := k2 + k3) (zs := es ++ fs) rfl rfl (by omega) (by omega) HB9.out.size (fun v' W' how hgw hbw => ?_)
            obtain ⟨A10, c10, rfl⟩ := Own.form how
            refine hK.out _ _ (fun _ _ => HSB.out _ (HB9.out.trans hbw)) ?_
            clear hK K
            refine wpAnyG_world (fun W => Below w6.heap.size w6 W ∧ Own tEdt W w6.heap.size 59 (lt B) (.slice A10 (k2 + k3) c10) (k2 + k3) (es ++ fs)) ⟨HB9.out.trans hbw, how⟩ (fun w10 hJ => ?_)
            obtain ⟨hb10, ho10⟩ := hJ
            have HB10 := Lib.hid hb10
            have HO10 := Lib.hid ho10
            clear hb10 ho10
            clear how hgw hbw W'
            refine wpAnyG_two (i := 6) (j := 11) (by kernel_rfl) rfl rfl rfl rfl (fun K hK => ?_) (fun K hK => ?_)
            · go_simp
              go_at_call 21
              refine (HAL.out w10 _ _ HB10.out HO10.out).mono ?_
              rintro e' W' ⟨hbw, A11, c11, rfl, hsw⟩
              have hbw6 : Below w6.heap.size w6 W' := HB10.out.trans (hbw.mono HB10.out.size)
              go_wp2_with fail
              refine hK.out _ _ (fun _ _ => HSB.out _ hbw6) ?_
              clear hK K
              refine wpAnyG_world (fun W => Below w6.heap.size w6 W ∧ Sl tNd W (rg w10.heap.size W.heap.size) A11 (alR l (es ++ fs)).1.length c11 (alR l (es ++ fs)).1) ⟨hbw6, hsw⟩ (fun w11 hJ => ?_)
              obtain ⟨hb11, hs11⟩ := hJ
              have HB11 := Lib.hid hb11
              have HS11 := Lib.hid hs11
              clear hb11 hs11
              clear hbw hbw6 hsw W'
              refine wpAnyG_pure (i := 7) (v := ?_) rfl (by kernel_rfl) (by kernel_rfl) (by kernel_rfl) (fun _ _ _ h => h) rfl ?_ ?_
              rotate_left
              · intro w'
                first | (go_simp; done) | (go_simp; with_reducible rfl)
              refine wpAnyG_pure (i := 8) (v := ?_) rfl (by kernel_rfl) (by kernel_rfl) (by kernel_rfl) (fun _ _ _ h => h) rfl ?_ ?_
              rotate_left
              · intro w'
                first | (go_simp; done) | (go_simp; with_reducible rfl)
              refine wpAnyG_pure (i := 9) (v := ?_) rfl (by kernel_rfl) (by kernel_rfl) (by kernel_rfl) (fun _ _ _ h => h) rfl ?_ ?_
              rotate_left
              · intro w'
                first | (go_simp; done) | (go_simp; with_reducible rfl)
              refine wpAnyG_pure (i := 10) (v := ?_) rfl (by kernel_rfl) (by kernel_rfl) (by kernel_rfl) (fun _ _ _ h => h) rfl ?_ ?_
              rotate_left
              · intro w'
                first | (go_simp; done) | (go_simp; with_reducible rfl)
              refine wpAnyG_one (i := 11) (by kernel_rfl) rfl rfl (fun K hK => ?_)
              go_simp
              refine hK.out _ _ (fun _ _ => HSB.out _ (HB11.out.alloc HB11.out.size _)) ?_
              clear hK K
              refine wpAnyG_world (fun W => Below w6.heap.size w6 W ∧ W.heap[w11.heap.size]? = some (.cells #[.slice none 0 0, .bool false] 24 (0, 0)) ∧ Sl tNd W (rg w10.heap.size w11.heap.size) A11 (alR l (es ++ fs)).1.length c11 (alR l (es ++ fs)).1 ∧ w11.heap.size ≤ W.heap.size) ⟨HB11.out.alloc HB11.out.size _, heap_alloc_new w11 _, sl_al_rg HS11.out (Nat.le_refl _) _, by simp⟩ (fun w12 hJ => ?_)
              obtain ⟨hb12, hx12, hs12, hz12⟩ := hJ
              have HB12 := Lib.hid hb12
              have HX12 := Lib.hid hx12
              have HS12 := Lib.hid hs12
              have HZ12 := Lib.hid hz12
              clear hb12 hx12 hs12 hz12
              have g1 := cell_blk (i := 0) HX12.out rfl
              have g2 := cell_blk (i := 1) HX12.out rfl
              have g3 := free_blk (i := 0) HX12.out
              have g4 := free_blk (i := 1) HX12.out
              have hOb : w6.heap.size ≤ w11.heap.size := by exact HB11.out.size
              have HOB := Lib.hid hOb
              have HSF := Lib.hid (sl_far2 (sl_far2 HS12.out (by unfold rg; omega : ¬ rg w10.heap.size w11.heap.size (w11.heap.size)) 0 (.slice A11 (alR l (es ++ fs)).1.length c11)) (by unfold rg; omega : ¬ rg w10.heap.size w11.heap.size (w11.heap.size)) 1 (.bool (alQ (alR l (es ++ fs)) q)))
              have HBF := Lib.hid ((HB12.out.setCell (p := ⟨w11.heap.size, 0, none⟩) HOB.out (.slice A11 (alR l (es ++ fs)).1.length c11)).setCell (p := ⟨w11.heap.size, 1, none⟩) HOB.out (.bool (alQ (alR l (es ++ fs)) q)))
              clear hOb
              refine wpAnyG_one (i := 12) (by kernel_rfl) rfl rfl (fun K hK => ?_)
              go_simp
              refine hK.out _ _ (fun _ _ => HSB.out _ HBF.out) ?_
              clear hK K
              refine wpAnyG_one (i := 13) (by kernel_rfl) rfl rfl (fun K hK => ?_)
              go_simp
              refine hK.out _ _ (fun _ h => h) ?_
              clear hK K
              refine wpAnyG_one (i := 14) (by kernel_rfl) rfl rfl (fun K hK => ?_)
              go_simp
              refine hK.out _ _ (fun _ h => h) ?_
              clear hK K
              refine wpAnyG_done (by kernel_rfl) ?_ _
              go_wp2_with fail
              go_meet
              case rel => exact ⟨w11.heap.size, A11, c11, rfl, rfl, rfl, HBF.out, set_blk (set_blk HX12.out _) _, HSF.out.more (fun b hb => ⟨Nat.le_trans HB10.out.size hb.1, Nat.lt_of_lt_of_le hb.2 (by simp only [World.size_setCell]; exact HZ12.out)⟩)⟩
            · go_simp
              refine hK.out _ _ (fun _ _ => HSB.out _ (HB10.out.alloc HB10.out.size _)) ?_
              clear hK K
              refine wpAnyG_world (fun W => Below w6.heap.size w6 W ∧ Own tEdt W w6.heap.size 59 (lt B) (.slice A10 (k2 + k3) c10) (k2 + k3) (es ++ fs) ∧ W.heap[w10.heap.size]? = some (.cells #[.slice none 0 0, .bool false] 24 (0, 0))) ⟨HB10.out.alloc HB10.out.size _, Own.alloc HO10.out _ (fun b hb => Nat.lt_of_lt_of_le hb (Nat.le_trans HBW6.out HB10.out.size)), heap_alloc_new w10 _⟩ (fun w13 hJ => ?_)
              obtain ⟨hb13, ho13, hx13⟩ := hJ
              have HB13 := Lib.hid hb13
              have HO13 := Lib.hid ho13
              have HX13 := Lib.hid hx13
              clear hb13 ho13 hx13
              refine wpAnyG_one (i := 6) (by kernel_rfl) rfl rfl (fun K hK => ?_)
              go_simp
              go_at_call 21
              refine (HAL.out w13 _ _ HB13.out HO13.out).mono ?_
              rintro e' W' ⟨hbw, A14, c14, rfl, hsw⟩
              have hbw6 : Below w6.heap.size w6 W' := HB13.out.trans (hbw.mono HB13.out.size)
              go_wp2_with fail
              refine hK.out _ _ (fun _ _ => HSB.out _ hbw6) ?_
              clear hK K
              refine wpAnyG_world (fun W => Below w6.heap.size w6 W ∧ W.heap[w10.heap.size]? = some (.cells #[.slice none 0 0, .bool false] 24 (0, 0)) ∧ Sl tNd W (rg w13.heap.size W.heap.size) A14 (alR l (es ++ fs)).1.length c14 (alR l (es ++ fs)).1) ⟨hbw6, (hbw.block _ (Array.getElem?_eq_some_iff.1 HX13.out).1).trans HX13.out, hsw⟩ (fun w14 hJ => ?_)
              obtain ⟨hb14, hx14, hs14⟩ := hJ
              have HB14 := Lib.hid hb14
              have HX14 := Lib.hid hx14
              have HS14 := Lib.hid hs14
              clear hb14 hx14 hs14
              clear hbw hbw6 hsw W'
              have HLT : Hid (w10.heap.size < w13.heap.size) := (Array.getElem?_eq_some_iff.1 HX13.out).1
              refine wpAnyG_pure (i := 7) (v := ?_) rfl (by kernel_rfl) (by kernel_rfl) (by kernel_rfl) (fun _ _ _ h => h) rfl ?_ ?_
              rotate_left
              · intro w'
                first | (go_simp; done) | (go_simp; with_reducible rfl)
              refine wpAnyG_pure (i := 8) (v := ?_) rfl (by kernel_rfl) (by kernel_rfl) (by kernel_rfl) (fun _ _ _ h => h) rfl ?_ ?_
              rotate_left
              · intro w'
                first | (go_simp; done) | (go_simp; with_reducible rfl)
              refine wpAnyG_pure (i := 9) (v := ?_) rfl (by kernel_rfl) (by kernel_rfl) (by kernel_rfl) (fun _ _ _ h => h) rfl ?_ ?_
              rotate_left
              · intro w'
                first | (go_simp; done) | (go_simp; with_reducible rfl)
              refine wpAnyG_pure (i := 10) (v := ?_) rfl (by kernel_rfl) (by kernel_rfl) (by kernel_rfl) (fun _ _ _ h => h) rfl ?_ ?_
              rotate_left
              · intro w'
                first | (go_simp; done) | (go_simp; with_reducible rfl)
              have g1 := cell_blk (i := 0) HX14.out rfl
              have g2 := cell_blk (i := 1) HX14.out rfl
              have g3 := free_blk (i := 0) HX14.out
              have g4 := free_blk (i := 1) HX14.out
              have hOb : w6.heap.size ≤ w10.heap.size := by exact HB10.out.size
              have HOB := Lib.hid hOb
              have hlt := HLT.out
              have HSF := Lib.hid (sl_far2 (sl_far2 HS14.out (by unfold rg; omega : ¬ rg w13.heap.size w14.heap.size (w10.heap.size)) 0 (.slice A14 (alR l (es ++ fs)).1.length c14)) (by unfold rg; omega : ¬ rg w13.heap.size w14.heap.size (w10.heap.size)) 1 (.bool (alQ (alR l (es ++ fs)) q)))
              have HBF := Lib.hid ((HB14.out.setCell (p := ⟨w10.heap.size, 0, none⟩) HOB.out (.slice A14 (alR l (es ++ fs)).1.length c14)).setCell (p := ⟨w10.heap.size, 1, none⟩) HOB.out (.bool (alQ (alR l (es ++ fs)) q)))
              clear hOb hlt
              refine wpAnyG_one (i := 12) (by kernel_rfl) rfl rfl (fun K hK => ?_)
              go_simp
              refine hK.out _ _ (fun _ _ => HSB.out _ HBF.out) ?_
              clear hK K
              refine wpAnyG_one (i := 13) (by kernel_rfl) rfl rfl (fun K hK => ?_)
              go_simp
              refine hK.out _ _ (fun _ h => h) ?_
              clear hK K
              refine wpAnyG_one (i := 14) (by kernel_rfl) rfl rfl (fun K hK => ?_)
              go_simp
              refine hK.out _ _ (fun _ h => h) ?_
              clear hK K
              refine wpAnyG_done (by kernel_rfl) ?_ _
              go_wp2_with fail
              go_meet
              case rel => exact ⟨w10.heap.size, A14, c14, rfl, rfl, rfl, HBF.out, set_blk (set_blk HX14.out _) _, HSF.out.more (fun b hb => ⟨Nat.le_trans HB13.out.size hb.1, Nat.lt_of_lt_of_le hb.2 (by simp)⟩)⟩
          · go_simp
            refine hK.out _ _ (fun _ _ => HSB.out _ (HB9.out.alloc HB9.out.size _)) ?_
            clear hK K
            refine wpAnyG_world (fun W => Below w6.heap.size w6 W ∧ Own tEdt W w6.heap.size 59 (lt B) (.slice A9 (k2) c9) (k2) (es) ∧ W.heap[w9.heap.size]? = some (.cells #[.slice none 0 0, .bool false] 24 (0, 0))) ⟨HB9.out.alloc HB9.out.size _, Own.alloc HO9.out _ (fun b hb => Nat.lt_of_lt_of_le hb (Nat.le_trans HBW6.out HB9.out.size)), heap_alloc_new w9 _⟩ (fun w15 hJ => ?_)
            obtain ⟨hb15, ho15, hx15⟩ := hJ
            have HB15 := Lib.hid hb15
            have HO15 := Lib.hid ho15
            have HX15 := Lib.hid hx15
            clear hb15 ho15 hx15
            refine wpAnyG_one (i := 5) (by kernel_rfl) rfl rfl (fun K hK => ?_)
            refine wp_apo w15 (.tmp 65) (.tmp 66) 51 rfl elemEdt rfl HO15.out HBW6.out rfl (HE3.out _ HB15.out) (nm := k2 + k3) (zs := es ++ fs) rfl rfl (by omega) (by omega) HB15.out.size (fun v' W' how hgw hbw => ?_)
            obtain ⟨A16, c16, rfl⟩ := Own.form how
            refine hK.out _ _ (fun _ _ => HSB.out _ (HB15.out.trans hbw)) ?_
            clear hK K
            refine wpAnyG_world (fun W => Below w6.heap.size w6 W ∧ Own tEdt W w6.heap.size 59 (lt B) (.slice A16 (k2 + k3) c16) (k2 + k3) (es ++ fs) ∧ W.heap[w9.heap.size]? = some (.cells #[.slice none 0 0, .bool false] 24 (0, 0))) ⟨HB15.out.trans hbw, how, (hgw.block _ (Array.getElem?_eq_some_iff.1 HX15.out).1 (fun e => own_ne_block (by decide) HO15.out HX15.out e.symm)).trans HX15.out⟩ (fun w16 hJ => ?_)
            obtain ⟨hb16, ho16, hx16⟩ := hJ
            have HB16 := Lib.hid hb16
            have HO16 := Lib.hid ho16
            have HX16 := Lib.hid hx16
            clear hb16 ho16 hx16
            clear how hgw hbw W'
            refine wpAnyG_one (i := 6) (by kernel_rfl) rfl rfl (fun K hK => ?_)
            go_simp
            go_at_call 21
            refine (HAL.out w16 _ _ HB16.out HO16.out).mono ?_
            rintro e' W' ⟨hbw, A17, c17, rfl, hsw⟩
            have hbw6 : Below w6.heap.size w6 W' := HB16.out.trans (hbw.mono HB16.out.size)
            go_wp2_with fail
            refine hK.out _ _ (fun _ _ => HSB.out _ hbw6) ?_
            clear hK K
            refine wpAnyG_world (fun W => Below w6.heap.size w6 W ∧ W.heap[w9.heap.size]? = some (.cells #[.slice none 0 0, .bool false] 24 (0, 0)) ∧ Sl tNd W (rg w16.heap.size W.heap.size) A17 (alR l (es ++ fs)).1.length c17 (alR l (es ++ fs)).1) ⟨hbw6, (hbw.block _ (Array.getElem?_eq_some_iff.1 HX16.out).1).trans HX16.out, hsw⟩ (fun w17 hJ => ?_)
            obtain ⟨hb17, hx17, hs17⟩ := hJ
            have HB17 := Lib.hid hb17
            have HX17 := Lib.hid hx17
            have HS17 := Lib.hid hs17
            clear hb17 hx17 hs17
            clear hbw hbw6 hsw W'
            have HLT : Hid (w9.heap.size < w16.heap.size) := (Array.getElem?_eq_some_iff.1 HX16.out).1
            refine wpAnyG_pure (i := 7) (v := ?_) rfl (by kernel_rfl) (by kernel_rfl) (by kernel_rfl) (fun _ _ _ h => h) rfl ?_ ?_
            rotate_left
            · intro w'
              first | (go_simp; done) | (go_simp; with_reducible rfl)
            refine wpAnyG_pure (i := 8) (v := ?_) rfl (by kernel_rfl) (by kernel_rfl) (by kernel_rfl) (fun _ _ _ h => h) rfl ?_ ?_
            rotate_left
            · intro w'
              first | (go_simp; done) | (go_simp; with_reducible rfl)
            refine wpAnyG_pure (i := 9) (v := ?_) rfl (by kernel_rfl) (by kernel_rfl) (by kernel_rfl) (fun _ _ _ h => h) rfl ?_ ?_
            rotate_left
            · intro w'
              first | (go_simp; done) | (go_simp; with_reducible rfl)
            refine wpAnyG_pure (i := 10) (v := ?_) rfl (by kernel_rfl) (by kernel_rfl) (by kernel_rfl) (fun _ _ _ h => h) rfl ?_ ?_
            rotate_left
            · intro w'
              first | (go_simp; done) | (go_simp; with_reducible rfl)
            have g1 := cell_blk (i := 0) HX17.out rfl
            have g2 := cell_blk (i := 1) HX17.out rfl
            have g3 := free_blk (i := 0) HX17.out
            have g4 := free_blk (i := 1) HX17.out
            have hOb : w6.heap.size ≤ w9.heap.size := by exact HB9.out.size
            have HOB := Lib.hid hOb
            have hlt := HLT.out
            have HSF := Lib.hid (sl_far2 (sl_far2 HS17.out (by unfold rg; omega : ¬ rg w16.heap.size w17.heap.size (w9.heap.size)) 0 (.slice A17 (alR l (es ++ fs)).1.length c17)) (by unfold rg; omega : ¬ rg w16.heap.size w17.heap.size (w9.heap.size)) 1 (.bool (alQ (alR l (es ++ fs)) q)))
            have HBF := Lib.hid ((HB17.out.setCell (p := ⟨w9.heap.size, 0, none⟩) HOB.out (.slice A17 (alR l (es ++ fs)).1.length c17)).setCell (p := ⟨w9.heap.size, 1, none⟩) HOB.out (.bool (alQ (alR l (es ++ fs)) q)))
            clear hOb hlt
            refine wpAnyG_one (i := 12) (by kernel_rfl) rfl rfl (fun K hK => ?_)
            go_simp
            refine hK.out _ _ (fun _ _ => HSB.out _ HBF.out) ?_
            clear hK K
            refine wpAnyG_one (i := 13) (by kernel_rfl) rfl rfl (fun K hK => ?_)
            go_simp
            refine hK.out _ _ (fun _ h => h) ?_
            clear hK K
            refine wpAnyG_one (i := 14) (by kernel_rfl) rfl rfl (fun K hK => ?_)
            go_simp
            refine hK.out _ _ (fun _ h => h) ?_
            clear hK K
            refine wpAnyG_done (by kernel_rfl) ?_ _
            go_wp2_with fail
            go_meet
            case rel => exact ⟨w9.heap.size, A17, c17, rfl, rfl, rfl, HBF.out, set_blk (set_blk HX17.out _) _, HSF.out.more (fun b hb => ⟨Nat.le_trans HB16.out.size hb.1, Nat.lt_of_lt_of_le hb.2 (by simp)⟩)⟩
        · go_simp
          refine hK.out _ _ (fun _ _ => HSB.out _ (HB8.out.alloc HB8.out.size _)) ?_
          clear hK K
          refine wpAnyG_world (fun W => Below w6.heap.size w6 W ∧ Own tEdt W w6.heap.size 59 (lt B) (.slice (some ⟨w7.heap.size, 0, none⟩) 0 0) (0) (([] : List Edt)) ∧ W.heap[w8.heap.size]? = some (.cells #[.slice none 0 0, .bool false] 24 (0, 0))) ⟨HB8.out.alloc HB8.out.size _, Own.alloc HO8.out _ (fun b hb => Nat.lt_of_lt_of_le hb (Nat.le_trans HBW6.out HB8.out.size)), heap_alloc_new w8 _⟩ (fun w18 hJ => ?_)
          obtain ⟨hb18, ho18, hx18⟩ := hJ
          have HB18 := Lib.hid hb18
          have HO18 := Lib.hid ho18
          have HX18 := Lib.hid hx18
          clear hb18 ho18 hx18
          refine wpAnyG_one (i := 3) (by kernel_rfl) rfl rfl (fun K hK => ?_)
          refine wp_apo w18 (.tmp 63) (.tmp 64) 51 rfl elemEdt rfl HO18.out HBW6.out rfl (HE2.out _ HB18.out) (nm := k2) (zs := es) (Nat.zero_add _) rfl (by omega) (by omega) HB18.out.size (fun v' W' how hgw hbw => ?_)
          obtain ⟨A19, c19, rfl⟩ := Own.form how
          refine hK.out _ _ (fun _ _ => HSB.out _ (HB18.out.trans hbw)) ?_
          clear hK K
          refine wpAnyG_world (fun W => Below w6.heap.size w6 W ∧ Own tEdt W w6.heap.size 59 (lt B) (.slice A19 (k2) c19) (k2) (es) ∧ W.heap[w8.heap.size]? = some (.cells #[.slice none 0 0, .bool false] 24 (0, 0))) ⟨HB18.out.trans hbw, how, (hgw.block _ (Array.getElem?_eq_some_iff.1 HX18.out).1 (fun e => own_ne_block (by decide) HO18.out HX18.out e.symm)).trans HX18.out⟩ (fun w19 hJ => ?_)
          obtain ⟨hb19, ho19, hx19⟩ := hJ
          have HB19 := Lib.hid hb19
          have HO19 := Lib.hid ho19
          have HX19 := Lib.hid hx19
          clear hb19 ho19 hx19
          clear how hgw hbw W'
          refine wpAnyG_one (i := 5) (by kernel_rfl) rfl rfl (fun K hK => ?_)
          refine wp_apo w19 (.tmp 65) (.tmp 66) 51 rfl elemEdt rfl HO19.out HBW6.out rfl (HE3.out _ HB19.out) (nm := k2 + k3) (zs := es ++ fs) rfl rfl (by omega) (by omega) HB19.out.size (fun v' W' how hgw hbw => ?_)
          obtain ⟨A20, c20, rfl⟩ := Own.form how
          refine hK.out _ _ (fun _ _ => HSB.out _ (HB19.out.trans hbw)) ?_
          clear hK K
          refine wpAnyG_world (fun W => Below w6.heap.size w6 W ∧ Own tEdt W w6.heap.size 59 (lt B) (.slice A20 (k2 + k3) c20) (k2 + k3) (es ++ fs) ∧ W.heap[w8.heap.size]? = some (.cells #[.slice none 0 0, .bool false] 24 (0, 0))) ⟨HB19.out.trans hbw, how, (hgw.block _ (Array.getElem?_eq_some_iff.1 HX19.out).1 (fun e => own_ne_block (by decide) HO19.out HX19.out e.symm)).trans HX19.out⟩ (fun w20 hJ => ?_)
          obtain ⟨hb20, ho20, hx20⟩ := hJ
          have HB20 := Lib.hid hb20
          have HO20 := Lib.hid ho20
          have HX20 := Lib.hid hx20
          clear hb20 ho20 hx20
          clear how hgw hbw W'
          refine wpAnyG_one (i := 6) (by kernel_rfl) rfl rfl (fun K hK => ?_)
          go_simp
          go_at_call 21
          refine (HAL.out w20 _ _ HB20.out HO20.out).mono ?_
          rintro e' W' ⟨hbw, A21, c21, rfl, hsw⟩
          have hbw6 : Below w6.heap.size w6 W' := HB20.out.trans (hbw.mono HB20.out.size)
          go_wp2_with fail
          refine hK.out _ _ (fun _ _ => HSB.out _ hbw6) ?_
          clear hK K
          refine wpAnyG_world (fun W => Below w6.heap.size w6 W ∧ W.heap[w8.heap.size]? = some (.cells #[.slice none 0 0, .bool false] 24 (0, 0)) ∧ Sl tNd W (rg w20.heap.size W.heap.size) A21 (alR l (es ++ fs)).1.length c21 (alR l (es ++ fs)).1) ⟨hbw6, (hbw.block _ (Array.getElem?_eq_some_iff.1 HX20.out).1).trans HX20.out, hsw⟩ (fun w21 hJ => ?_)
          obtain ⟨hb21, hx21, hs21⟩ := hJ
          have HB21 := Lib.hid hb21
          have HX21 := Lib.hid hx21
          have HS21 := Lib.hid hs21
          clear hb21 hx21 hs21
          clear hbw hbw6 hsw W'
          have HLT : Hid (w8.heap.size < w20.heap.size) := (Array.getElem?_eq_some_iff.1 HX20.out).1
          refine wpAnyG_pure (i := 7) (v := ?_) rfl (by kernel_rfl) (by kernel_rfl) (by kernel_rfl) (fun _ _ _ h => h) rfl ?_ ?_
          rotate_left
          · intro w'
            first | (go_simp; done) | (go_simp; with_reducible rfl)
          refine wpAnyG_pure (i := 8) (v := ?_) rfl (by kernel_rfl) (by kernel_rfl) (by kernel_rfl) (fun _ _ _ h => h) rfl ?_ ?_
          rotate_left
          · intro w'
            first | (go_simp; done) | (go_simp; with_reducible rfl)
          refine wpAnyG_pure (i := 9) (v := ?_) rfl (by kernel_rfl) (by kernel_rfl) (by kernel_rfl) (fun _ _ _ h => h) rfl ?_ ?_
          rotate_left
          · intro w'
            first | (go_simp; done) | (go_simp; with_reducible rfl)
          refine wpAnyG_pure (i := 10) (v := ?_) rfl (by kernel_rfl) (by kernel_rfl) (by kernel_rfl) (fun _ _ _ h => h) rfl ?_ ?_
          rotate_left
          · intro w'
            first | (go_simp; done) | (go_simp; with_reducible rfl)
          have g1 := cell_blk (i := 0) HX21.out rfl
          have g2 := cell_blk (i := 1) HX21.out rfl
          have g3 := free_blk (i := 0) HX21.out
          have g4 := free_blk (i := 1) HX21.out
          have hOb : w6.heap.size ≤ w8.heap.size := by exact HB8.out.size
          have HOB := Lib.hid hOb
          have hlt := HLT.out
          have HSF := Lib.hid (sl_far2 (sl_far2 HS21.out (by unfold rg; omega : ¬ rg w20.heap.size w21.heap.size (w8.heap.size)) 0 (.slice A21 (alR l (es ++ fs)).1.length c21)) (by unfold rg; omega : ¬ rg w20.heap.size w21.heap.size (w8.heap.size)) 1 (.bool (alQ (alR l (es ++ fs)) q)))
          have HBF := Lib.hid ((HB21.out.setCell (p := ⟨w8.heap.size, 0, none⟩) HOB.out (.slice A21 (alR l (es ++ fs)).1.length c21)).setCell (p := ⟨w8.heap.size, 1, none⟩) HOB.out (.bool (alQ (alR l (es ++ fs)) q)))
          clear hOb hlt
          refine wpAnyG_one (i := 12) (by kernel_rfl) rfl rfl (fun K hK => ?_)
          go_simp
          refine hK.out _ _ (fun _ _ => HSB.out _ HBF.out) ?_
          clear hK K
          refine wpAnyG_one (i := 13) (by kernel_rfl) rfl rfl (fun K hK => ?_)
          go_simp
          refine hK.out _ _ (fun _ h => h) ?_
          clear hK K
          refine wpAnyG_one (i := 14) (by kernel_rfl) rfl rfl (fun K hK => ?_)
          go_simp
          refine hK.out _ _ (fun _ h => h) ?_
          clear hK K
          refine wpAnyG_done (by kernel_rfl) ?_ _
          go_wp2_with fail
          go_meet
          case rel => exact ⟨w8.heap.size, A21, c21, rfl, rfl, rfl, HBF.out, set_blk (set_blk HX21.out _) _, HSF.out.more (fun b hb => ⟨Nat.le_trans HB20.out.size hb.1, Nat.lt_of_lt_of_le hb.2 (by simp)⟩)⟩
      · go_simp
        refine hK.out _ _ (fun _ _ => HSB.out _ (HB7.out.alloc HB7.out.size _)) ?_
        clear hK K
        refine wpAnyG_world (fun W => Below w6.heap.size w6 W ∧ W.heap[w7.heap.size]? = some (.cells #[.slice none 0 0, .bool false] 24 (0, 0))) ⟨HB7.out.alloc HB7.out.size _, heap_alloc_new w7 _⟩ (fun w22 hJ => ?_)
        obtain ⟨hb22, hx22⟩ := hJ
        have HB22 := Lib.hid hb22
        have HX22 := Lib.hid hx22
        clear hb22 hx22
        refine wpAnyG_one (i := 1) (by kernel_rfl) rfl rfl (fun K hK => ?_)
        go_simp
        refine hK.out _ _ (fun _ _ => HSB.out _ (HB22.out.alloc HB22.out.size _)) ?_
        clear hK K
        refine wpAnyG_world (fun W => Below w6.heap.size w6 W ∧ Own tEdt W w6.heap.size 59 (lt B) (.slice (some ⟨w22.heap.size, 0, none⟩) 0 0) (0) (([] : List Edt)) ∧ W.heap[w7.heap.size]? = some (.cells #[.slice none 0 0, .bool false] 24 (0, 0))) ⟨HB22.out.alloc HB22.out.size _, ⟨[], World.ownsRow_made w22 #[] 0 HB22.out.size (by simp) (by simp), Row.nil⟩, (Lib.alloc_old w22 _ _ (Array.getElem?_eq_some_iff.1 HX22.out).1).trans HX22.out⟩ (fun w23 hJ => ?_)
        obtain ⟨hb23, ho23, hx23⟩ := hJ
        have HB23 := Lib.hid hb23
        have HO23 := Lib.hid ho23
        have HX23 := Lib.hid hx23
        clear hb23 ho23 hx23
        refine wpAnyG_one (i := 3) (by kernel_rfl) rfl rfl (fun K hK => ?_)
        refine wp_apo w23 (.tmp 63) (.tmp 64) 51 rfl elemEdt rfl HO23.out HBW6.out rfl (HE2.out _ HB23.out) (nm := k2) (zs := es) (Nat.zero_add _) rfl (by omega) (by omega) HB23.out.size (fun v' W' how hgw hbw => ?_)
        obtain ⟨A24, c24, rfl⟩ := Own.form how
        refine hK.out _ _ (fun _ _ => HSB.out _ (HB23.out.trans hbw)) ?_
        clear hK K
        refine wpAnyG_world (fun W => Below w6.heap.size w6 W ∧ Own tEdt W w6.heap.size 59 (lt B) (.slice A24 (k2) c24) (k2) (es) ∧ W.heap[w7.heap.size]? = some (.cells #[.slice none 0 0, .bool false] 24 (0, 0))) ⟨HB23.out.trans hbw, how, (hgw.block _ (Array.getElem?_eq_some_iff.1 HX23.out).1 (fun e => own_ne_block (by decide) HO23.out HX23.out e.symm)).trans HX23.out⟩ (fun w24 hJ => ?_)
        obtain ⟨hb24, ho24, hx24⟩ := hJ
        have HB24 := Lib.hid hb24
        have HO24 := Lib.hid ho24
        have HX24 := Lib.hid hx24
        clear hb24 ho24 hx24
        clear how hgw hbw W'
        refine wpAnyG_one (i := 5) (by kernel_rfl) rfl rfl (fun K hK => ?_)
        refine wp_apo w24 (.tmp 65) (.tmp 66) 51 rfl elemEdt rfl HO24.out HBW6.out rfl (HE3.out _ HB24.out) (nm := k2 + k3) (zs := es ++ fs) rfl rfl (by omega) (by omega) HB24.out.size (fun v' W' how hgw hbw => ?_)
        obtain ⟨A25, c25, rfl⟩ := Own.form how
        refine hK.out _ _ (fun _ _ => HSB.out _ (HB24.out.trans hbw)) ?_
        clear hK K
        refine wpAnyG_world (fun W => Below w6.heap.size w6 W ∧ Own tEdt W w6.heap.size 59 (lt B) (.slice A25 (k2 + k3) c25) (k2 + k3) (es ++ fs) ∧ W.heap[w7.heap.size]? = some (.cells #[.slice none 0 0, .bool false] 24 (0, 0))) ⟨HB24.out.trans hbw, how, (hgw.block _ (Array.getElem?_eq_some_iff.1 HX24.out).1 (fun e => own_ne_block (by decide) HO24.out HX24.out e.symm)).trans HX24.out⟩ (fun w25 hJ => ?_)
        obtain ⟨hb25, ho25, hx25⟩ := hJ
        have HB25 := Lib.hid hb25
        have HO25 := Lib.hid ho25
        have HX25 := Lib.hid hx25
        clear hb25 ho25 hx25
        clear how hgw hbw W'
        refine wpAnyG_one (i := 6) (by kernel_rfl) rfl rfl (fun K hK => ?_)
        go_simp
        go_at_call 21
        refine (HAL.out w25 _ _ HB25.out HO25.out).mono ?_
        rintro e' W' ⟨hbw, A26, c26, rfl, hsw⟩
        have hbw6 : Below w6.heap.size w6 W' := HB25.out.trans (hbw.mono HB25.out.size)
        go_wp2_with fail
        refine hK.out _ _ (fun _ _ => HSB.out _ hbw6) ?_
        clear hK K
        refine wpAnyG_world (fun W => Below w6.heap.size w6 W ∧ W.heap[w7.heap.size]? = some (.cells #[.slice none 0 0, .bool false] 24 (0, 0)) ∧ Sl tNd W (rg w25.heap.size W.heap.size) A26 (alR l (es ++ fs)).1.length c26 (alR l (es ++ fs)).1) ⟨hbw6, (hbw.block _ (Array.getElem?_eq_some_iff.1 HX25.out).1).trans HX25.out, hsw⟩ (fun w26 hJ => ?_)
        obtain ⟨hb26, hx26, hs26⟩ := hJ
        have HB26 := Lib.hid hb26
        have HX26 := Lib.hid hx26
        have HS26 := Lib.hid hs26
        clear hb26 hx26 hs26
        clear hbw hbw6 hsw W'
        have HLT : Hid (w7.heap.size < w25.heap.size) := (Array.getElem?_eq_some_iff.1 HX25.out).1
        refine wpAnyG_pure (i := 7) (v := ?_) rfl (by kernel_rfl) (by kernel_rfl) (by kernel_rfl) (fun _ _ _ h => h) rfl ?_ ?_
        rotate_left
        · intro w'
          first | (go_simp; done) | (go_simp; with_reducible rfl)
        refine wpAnyG_pure (i := 8) (v := ?_) rfl (by kernel_rfl) (by kernel_rfl) (by kernel_rfl) (fun _ _ _ h => h) rfl ?_ ?_
        rotate_left
        · intro w'
          first | (go_simp; done) | (go_simp; with_reducible rfl)
        refine wpAnyG_pure (i := 9) (v := ?_) rfl (by kernel_rfl) (by kernel_rfl) (by kernel_rfl) (fun _ _ _ h => h) rfl ?_ ?_
        rotate_left
        · intro w'
          first | (go_simp; done) | (go_simp; with_reducible rfl)
        refine wpAnyG_pure (i := 10) (v := ?_) rfl (by kernel_rfl) (by kernel_rfl) (by kernel_rfl) (fun _ _ _ h => h) rfl ?_ ?_
        rotate_left
        · intro w'
          first | (go_simp; done) | (go_simp; with_reducible rfl)
        have g1 := cell_blk (i := 0) HX26.out rfl
        have g2 := cell_blk (i := 1) HX26.out rfl
        have g3 := free_blk (i := 0) HX26.out
        have g4 := free_blk (i := 1) HX26.out
        have hOb : w6.heap.size ≤ w7.heap.size := by exact HB7.out.size
        have HOB := Lib.hid hOb
        have hlt := HLT.out
        have HSF := Lib.hid (sl_far2 (sl_far2 HS26.out (by unfold rg; omega : ¬ rg w25.heap.size w26.heap.size (w7.heap.size)) 0 (.slice A26 (alR l (es ++ fs)).1.length c26)) (by unfold rg; omega : ¬ rg w25.heap.size w26.heap.size (w7.heap.size)) 1 (.bool (alQ (alR l (es ++ fs)) q)))
        have HBF := Lib.hid ((HB26.out.setCell (p := ⟨w7.heap.size, 0, none⟩) HOB.out (.slice A26 (alR l (es ++ fs)).1.length c26)).setCell (p := ⟨w7.heap.size, 1, none⟩) HOB.out (.bool (alQ (alR l (es ++ fs)) q)))
        clear hOb hlt
        refine wpAnyG_one (i := 12) (by kernel_rfl) rfl rfl (fun K hK => ?_)
        go_simp
        refine hK.out _ _ (fun _ _ => HSB.out _ HBF.out) ?_
        clear hK K
        refine wpAnyG_one (i := 13) (by kernel_rfl) rfl rfl (fun K hK => ?_)
        go_simp
        refine hK.out _ _ (fun _ h => h) ?_
        clear hK K
        refine wpAnyG_one (i := 14) (by kernel_rfl) rfl rfl (fun K hK => ?_)
        go_simp
        refine hK.out _ _ (fun _ h => h) ?_
        clear hK K
        refine wpAnyG_done (by kernel_rfl) ?_ _
        go_wp2_with fail
        go_meet
        case rel => exact ⟨w7.heap.size, A26, c26, rfl, rfl, rfl, HBF.out, set_blk (set_blk HX26.out _) _, HSF.out.more (fun b hb => ⟨Nat.le_trans HB25.out.size hb.1, Nat.lt_of_lt_of_le hb.2 (by simp)⟩)⟩
    case rest =>
      obtain ⟨O, A9, c9, rfl, rfl, rfl, hbw, ho, hs9⟩ := hcut
      obtain ⟨h1, h2, h3, h4⟩ := HLAW.out
      have hq9 : alQ (alR l (es ++ fs)) q = alQ R2 q := by unfold alQ; rw [h2]
      rw [h1, hq9] at ho
      rw [h1] at hs9
      rw [h2]
      have HO3 := Lib.hid ho
      have HS9 := Lib.hid hs9
      have hxy := (hbw.block _ (Array.getElem?_eq_some_iff.1 HO2.out).1).trans HO2.out
      have HXY := Lib.hid hxy
      have HBY := Lib.hid (HB6.out.trans (hbw.mono HB6.out.size))
      have HSY := Lib.hid ((HS6.out.below hbw (Nat.le_refl _)).up hbw.size)
      have HW9 := Lib.hid (HDB.out wc)
      have hfin : Hid (∀ w8 : World, Below wc.heap.size wc w8 → Calls Tryd.prog 23 #[.agg #[.slice A6 R2.1.length c6, .bool (alQ R2 q)], .agg #[.slice A9 R2.1.length c9, .bool (alQ R2 q)]] w8 fun e w' => e = .returned (.bool true) ∧ Below w8.heap.size w8 w') := fun w8 hb8 =>
        sameDoc_same A6 R2.1.length c6 A9 c9 R2.1 (alQ R2 q) w8 w8.heap.size ((HSY.out.below hb8 (Nat.le_refl _)).up hb8.size) ((((Sl.ltr HS9.out).below hb8 (Nat.le_refl _))).up hb8.size) (Nat.le_refl _)
      obtain ⟨i3, hi3⟩ : ∃ i3, (alR l (es ++ fs)).2.1 = i3 := ⟨_, rfl⟩
      rw [hi3] at h3 h4
      rw [hi3]
      clear hi3 hbw ho hs9 h1 h2 hq9 hxy x0 x1 HE2 HE3 HAL
      by_cases hf : R2.2.2 = 0
      · obtain ⟨ha, hb⟩ := h3 hf
        rw [hf, ha, hb]
        clear hf ha hb h3 h4 HAE HLAW
        generalize alQ R2 q = qq at *
        generalize R2.1.length = N2 at *
        go_wp2_with (first
          | (go_at_call 22; refine HW9.out.mono ?_; rintro e w8 ⟨rfl, hb8⟩; have HSM := Lib.hid (hfin.out w8 hb8); have HB8 := Lib.hid (HBY.out.trans (hb8.mono HBY.out.size)); have y0 := cell_be (cell_blk (i := 0) HXY.out rfl) hb8; have y1 := cell_be (cell_blk (i := 1) HXY.out rfl) hb8; have z0 := cell_be (cell_blk (i := 0) HO3.out rfl) hb8; have z1 := cell_be (cell_blk (i := 1) HO3.out rfl) hb8; clear hb8)
          | (go_at_call 23; refine HSM.out.mono ?_; rintro e w9 ⟨rfl, hb9⟩))
        refine bodyPost_ret (v := .bool true) (by simp [results, Tryd.results5, go_sem]) rfl ⟨rfl, ?_⟩
        exact HB8.out.trans (hb9.mono HB8.out.size)
      · have hi := h4 hf
        have hbd : 0 ≤ R2.2.1 ∧ R2.2.1 ≤ 20 := by
          rcases HAE.out hf with h | ⟨j, h, hj⟩
          · omega
          · have := HFN.out; omega
        have hk2e : (es.length : Int) = (k2 : Int) := by have := HEN.out; omega
        rw [hk2e] at hi
        rw [hi]
        have hf1 : (R2.2.2 != 0) = true := by simpa using hf
        have hf2 : (R2.2.2 == 0) = false := by simpa using hf
        have hff : (R2.2.2 != R2.2.2) = false := by simp
        obtain ⟨hbd1, hbd2⟩ := hbd
        have hii : ((k2 : Int) + R2.2.1 != (k2 : Int) + R2.2.1) = false := by simp
        clear hf hi hk2e h3 h4 HAE HLAW
        generalize R2.2.2 = er at *
        generalize R2.2.1 = i2 at *
        generalize alQ R2 q = qq at *
        generalize R2.1.length = N2 at *
        go_wp2_with (first
          | (go_at_call 22; refine HW9.out.mono ?_; rintro e w8 ⟨rfl, hb8⟩; have HSM := Lib.hid (hfin.out w8 hb8); have HB8 := Lib.hid (HBY.out.trans (hb8.mono HBY.out.size)); have y0 := cell_be (cell_blk (i := 0) HXY.out rfl) hb8; have y1 := cell_be (cell_blk (i := 1) HXY.out rfl) hb8; have z0 := cell_be (cell_blk (i := 0) HO3.out rfl) hb8; have z1 := cell_be (cell_blk (i := 1) HO3.out rfl) hb8; clear hb8)
          | (go_at_call 23; refine HSM.out.mono ?_; rintro e w9 ⟨rfl, hb9⟩))
        refine bodyPost_ret (v := .bool true) (by simp [results, Tryd.results5, go_sem]) rfl ⟨rfl, ?_⟩
        exact HB8.out.trans (hb9.mono HB8.out.size)
  · have hbad := alR_err (l := l) (es := es) (by rw [HR1.out]; exact he)
    rw [HR1.out] at hbad
    have he1 : (R1.2.2 != 0) = true := by simpa using he
    have hlen : R1.1.length = 0 := by rw [hbad.1]; rfl
    have o0 := cell_blk (i := 0) HO1.out rfl
    rw [hlen] at o0
    have HBD := Lib.hid hbad.2
    have HW4 := Lib.hid (HDB.out w4)
    clear he hbad hlen HO1
    generalize R1.2.2 = er at *
    rcases HBD.out with hi | ⟨j, hi, hj⟩
    · rw [hi]
      clear hi
      go_wp2_with (go_at_call 22; refine HW4.out.mono ?_; rintro e w5 ⟨rfl, hb5⟩; have o1 := cell_be o0 hb5)
      refine bodyPost_ret (v := .bool true) (by simp [results, Tryd.results5, go_sem]) rfl ⟨rfl, ?_⟩
      exact HB4.out.trans (hb5.mono HB4.out.size)
    · rw [hi]
      have hj2 : (j : Int) < (k2 : Int) := by have := HEN.out; omega
      clear hi hj
      by_cases hj0 : j = 0
      · have hjb : ((j : Int) == 0) = true := by rw [hj0]; rfl
        clear hj0
        go_wp2_with (go_at_call 22; refine HW4.out.mono ?_; rintro e w5 ⟨rfl, hb5⟩; have o1 := cell_be o0 hb5)
        refine bodyPost_ret (v := .bool true) (by simp [results, Tryd.results5, go_sem]) rfl ⟨rfl, ?_⟩
        exact HB4.out.trans (hb5.mono HB4.out.size)
      · have hjb : ((j : Int) == 0) = false := beq_eq_false_iff_ne.2 (by omega)
        clear hj0
        go_wp2_with (go_at_call 22; refine HW4.out.mono ?_; rintro e w5 ⟨rfl, hb5⟩; have o1 := cell_be o0 hb5)
        refine bodyPost_ret (v := .bool true) (by simp [results, Tryd.results5, go_sem]) rfl ⟨rfl, ?_⟩
        exact HB4.out.trans (hb5.mono HB4.out.size)
end Go.Proofs.YtmemadajjmmlpaaDoor
