/-
The walk of SerialLines.
-/
import Derived.Test.YtfgmfmkibjfknaaDoorSerReadLaw
import Derived.Test.YtfgmfmkibjfknaaDoorSerTreeW
import Derived.Test.YtfgmfmkibjfknaaDoorSerBegun
import Derived.Test.YtfgmfmkibjfknaaDoorAlike2
namespace Go.Proofs.YtfgmfmkibjfknaaDoor
open Go.RowKit Go.Cl
attribute [local go_sem ↓] Go.wp_at_zero Go.wp_at_succ

theorem like_trans {a c b : List Nd} (f : Nat) : ∀ n m k : Nat, Like a c f n m → Like c b f m k → Like a b f n k := by
  induction f with
  | zero => intro n m k h; exact h.elim
  | succ f ih =>
    intro n m k h h2
    obtain ⟨x, y, hx, hy, h1, h2', h3, h4, h5, hk⟩ := h
    obtain ⟨y', z, hy', hz, g1, g2, g3, g4, g5, gk⟩ := h2
    rw [hy] at hy'
    obtain rfl := Option.some.inj hy'
    refine ⟨x, z, hx, hz, g1.trans h1, g2.trans h2', g3.trans h3, g4.trans h4, g5.trans h5, fun i p q hp hq => ?_⟩
    obtain ⟨u, hu⟩ := get_some (l := y.kids) (k := i) (by rw [h5]; exact (List.getElem?_eq_some_iff.1 hp).1)
    obtain ⟨p', u', e1, e2, hl⟩ := hk i p u hp hu
    obtain ⟨u2, q', e3, e4, hl2⟩ := gk i u q hu hq
    obtain rfl : u' = u2 := by omega
    exact ⟨p', q', e1, e4, ih p' u' q' hl hl2⟩
theorem good_fuel0 {l : List Nd} (G : Good l) : upN l ((0 : Nat) : Int) + 41 = 41 := by rw [(tree_of (check_of G)).up0]
/-- Two documents are told alike just if they are the same. -/
theorem told_alike {a b : List Nd} (Ga : Good a) (Gb : Good b) (qa qb : Bool) : treeL a qa = treeL b qb ↔ (qa = qb ∧ Like a b 41 0 0) := by
  have Ta := tree_of (check_of Ga)
  have Tb := tree_of (check_of Gb)
  constructor
  · intro h
    obtain ⟨ca, ea, Ca⟩ := back_tree Ga qa
    obtain ⟨cb, eb, Cb⟩ := back_tree Gb qb
    rw [h, eb] at ea
    have ea := Option.some.inj ea
    injection ea with e1 e2
    subst e1 e2
    have h1 := (bk_like Ga Ca 41 0 Ta.in0 Ta.pos (good_fuel0 Ga)).2
    have h2 := (bk_like Gb Cb 41 0 Tb.in0 Tb.pos (good_fuel0 Gb)).1
    rw [Ta.bkN_zero] at h1
    rw [Tb.bkN_zero] at h2
    exact ⟨rfl, like_trans 41 0 0 0 h1 h2⟩
  · rintro ⟨rfl, h⟩
    unfold treeL
    rw [show upN a 0 = 0 from Ta.up0, show upN b 0 = 0 from Tb.up0]
    show (if qa = true then [126, 10] else []) ++ linesF a 41 0 ((0 : Nat) : Int) = (if qa = true then [126, 10] else []) ++ linesF b 41 0 ((0 : Nat) : Int)
    rw [(like_lines 41 0 0 0 h).1]
theorem back_right {s : List UInt8} {l : List Nd} {q : Bool} (h : backR s = some (l, q)) : checkD l = 0 ∧ treeL l q = s := by
  unfold backR at h
  split at h
  · cases h
  · split at h
    · rename_i h1
      have h := Option.some.inj h
      injection h with e1 e2
      subst e1 e2
      exact h1
    · cases h
theorem tree_short {l : List Nd} (G : Good l) (q : Bool) (h : l.length ≤ 60) : (treeL l q).length ≤ 1000000000 := by
  have T := tree_of (check_of G)
  have h1 := lines_bound T (nok_good G) 41 0 0 T.pos (good_fuel0 G) (by decide)
  have h2 := pre_short T T.pos
  unfold treeL
  rw [show upN l 0 = 0 from T.up0, List.length_append]
  have h3 : (if q = true then [126, 10] else [] : List UInt8).length ≤ 2 := by split <;> decide
  show _ + (linesF l 41 0 0).length ≤ _
  have h4 : (linesF l 41 0 ((0 : Nat) : Int)).length = (linesF l 41 0 0).length := rfl
  omega
theorem same_says {a b : List Nd} (Ga : Good a) (Gb : Good b) {qa qb : Bool} {S1 S2 : ByteArray} (h1 : S1 = ⟨(treeL a qa).toArray⟩) (h2 : S2 = ⟨(treeL b qb).toArray⟩) {r : Bool} (h : r = true ↔ qa = qb ∧ Like a b 41 0 0) : (S1.toList == S2.toList) = r := by
  rw [← told_alike Ga Gb] at h
  cases r with
  | true =>
    have e := h.1 rfl
    rw [h1, h2, e]
    simp
  | false =>
    refine bne_str fun e => ?_
    have e2 : treeL a qa = treeL b qb := by
      have := congrArg (fun x : ByteArray => x.data.toList) e
      rw [h1, h2] at this
      exact this
    cases h.2 e2
set_option maxRecDepth 100000 in
set_option maxHeartbeats 8000000 in
theorem serialLines_walk (A1 : Option Addr) (n1 c1 : Nat) (l1 : List Nd) (q1 : Bool) (A2 : Option Addr) (n2 c2 : Nat) (l2 : List Nd) (q2 : Bool) (s : ByteArray) (w : World) (B : Nat) (hl1 : Sl tNd w (lt B) A1 n1 c1 l1) (hl2 : Sl tNd w (lt B) A2 n2 c2 l2) (hB : B ≤ w.heap.size) (hs : s.size ≤ 1152921504606846976) (m : Int) (hm : maxAt w m) :
    Calls Tryd.prog 3 #[.agg #[.slice A1 n1 c1, .bool q1], .agg #[.slice A2 n2 c2, .bool q2], .string s] w fun e w' => e = .returned (.bool true) ∧ Below w.heap.size w w' := by
  obtain ⟨wa, hwa⟩ : ∃ wa, wa = w.alloc (.cells #[.slice A1 n1 c1, .bool q1] 24) := ⟨_, rfl⟩
  obtain ⟨w0, hw0⟩ : ∃ w0, w0 = wa.alloc (.cells #[.slice A2 n2 c2, .bool q2] 24) := ⟨_, rfl⟩
  have za : wa.heap.size = w.heap.size + 1 := by rw [hwa]; exact World.size_alloc w _
  have z0 : w0.heap.size = w.heap.size + 2 := by rw [hw0, World.size_alloc, za]
  have hb0 : Below w.heap.size w w0 := by rw [hw0, hwa]; exact ((Below.refl _ _).alloc (Nat.le_refl _) _).alloc (by simp) _
  have hx1 : w0.heap[w.heap.size]? = some (.cells #[.slice A1 n1 c1, .bool q1] 24 (0, 0)) := by rw [hw0, Lib.alloc_old _ _ _ (by omega), hwa]; exact heap_alloc_new w _
  have hx2 : w0.heap[w.heap.size + 1]? = some (.cells #[.slice A2 n2 c2, .bool q2] 24 (0, 0)) := by rw [hw0, ← za]; exact heap_alloc_new wa _
  have HB0 := Lib.hid hb0
  have HX1 := Lib.hid hx1
  have HX2 := Lib.hid hx2
  have HZ0 := Lib.hid z0
  obtain ⟨k1, hk1, hkc1, hkn1, hk160⟩ : ∃ k : Nat, min (n1 : Int) 60 = (k : Int) ∧ k ≤ c1 ∧ k ≤ n1 ∧ k ≤ 60 := ⟨min n1 60, by omega, by have := hl1.hc; omega, by omega, by omega⟩
  obtain ⟨k2, hk2, hkc2, hkn2, hk260⟩ : ∃ k : Nat, min (n2 : Int) 60 = (k : Int) ∧ k ≤ c2 ∧ k ≤ n2 ∧ k ≤ 60 := ⟨min n2 60, by omega, by have := hl2.hc; omega, by omega, by omega⟩
  obtain ⟨k3, hk3, hk31000, hk3s⟩ : ∃ k : Nat, min (s.size : Int) 1000 = (k : Int) ∧ k ≤ 1000 ∧ k ≤ s.size := ⟨min s.size 1000, by omega, by omega, by omega⟩
  have HF1 := Lib.hid (fun u => few_any A1 n1 c1 k1 q1 60 u hk1 hkc1)
  have HF2 := Lib.hid (fun u => few_any A2 n2 c2 k2 q2 60 u hk2 hkc2)
  have HSO := Lib.hid (fun u => someS_any s 1000 k3 u hk3)
  have HL1 := Lib.hid (hl1.cut_to hkn1)
  have HL2 := Lib.hid (hl2.cut_to hkn2)
  have HBW : Hid (B ≤ w.heap.size) := hB
  have x0 := cell_blk (i := 0) hx1 rfl
  have x1 := cell_blk (i := 1) hx1 rfl
  have y0 := cell_blk (i := 0) hx2 rfl
  have y1 := cell_blk (i := 1) hx2 rfl
  clear hb0 hx1 hx2 za z0 hl1 hl2 hB hk1 hk2 hk3
  go_enter Tryd.func3, Tryd.ntmps3
  go_upto_region 1 with fail
  rw [← hwa, ← hw0]
  clear hwa hw0
  refine wp_region_G (S := fun w' : World => w'.cell? ⟨w.heap.size + 1, 0, none⟩ = some (.slice A2 n2 c2) ∧ w'.cell? ⟨w.heap.size + 1, 1, none⟩ = some (.bool q2)) (T := [7, 8]) (by kernel_rfl) ?_
  have hS : (fun w' : World => w'.cell? ⟨w.heap.size + 1, 0, none⟩ = some (.slice A2 n2 c2) ∧ w'.cell? ⟨w.heap.size + 1, 1, none⟩ = some (.bool q2)) w0.drew := ⟨y0, y1⟩
  refine wpAnyG_pure (i := 4) (v := ?_) rfl (by kernel_rfl) (by kernel_rfl) (by kernel_rfl) (fun _ _ _ h => h) rfl ?_ ?_
  rotate_left
  · intro w'
    first | (go_simp; done) | (go_simp; with_reducible rfl)
  refine wpAnyG_take (i := 2) (v := ?_) rfl (by kernel_rfl) (by kernel_rfl) (by kernel_rfl) (by kernel_rfl) (fun _ _ _ h => h) hS rfl ?_ ?_
  rotate_left
  · intro w' hSw
    (try dsimp only at hSw)
    first | (go_simp; done) | (go_simp; with_reducible rfl)
  refine wpAnyG_one (i := 0) (by kernel_rfl) rfl rfl (fun K hK => ?_)
  go_simp
  refine hK.out _ _ (fun _ h => h) ?_
  clear hK K
  refine wpAnyG_one (i := 1) (by kernel_rfl) rfl rfl (fun K hK => ?_)
  go_simp
  go_at_call 6
  refine (HF1.out _).mono ?_
  rintro e w1 ⟨rfl, hb1⟩
  have hb01 : Below w0.heap.size w0 w1 := ((Below.refl _ w0).drew).trans hb1
  have v0 := cell_be y0 hb01
  have v1 := cell_be y1 hb01
  go_wp2_with fail
  refine hK.out _ _ (fun _ _ => ⟨v0, v1⟩) ?_
  clear hK K hS
  refine wpAnyG_one (i := 3) (by kernel_rfl) rfl rfl (fun K hK => ?_)
  go_simp
  go_at_call 6
  refine (HF2.out _).mono ?_
  rintro e w2 ⟨rfl, hb2⟩
  have hb02 : Below w0.heap.size w0 w2 := hb01.trans (hb2.mono hb01.size)
  have v0 := cell_be y0 hb02
  have v1 := cell_be y1 hb02
  go_wp2_with fail
  refine hK.out _ _ (fun _ _ => ⟨v0, v1⟩) ?_
  clear hK K
  refine wpAnyG_one (i := 5) (by kernel_rfl) rfl rfl (fun K hK => ?_)
  go_simp
  go_at_call 7
  refine (HSO.out _).mono ?_
  rintro e w3 ⟨rfl, hw3⟩
  obtain rfl : w2 = w3 := hw3.symm
  go_wp2_with fail
  refine hK.out _ _ (fun _ h => h) ?_
  clear hK K
  have hx1 := (hb02.block _ (by have := HZ0.out; omega)).trans HX1.out
  have hx2 := (hb02.block _ (by have := HZ0.out; omega)).trans HX2.out
  have a0 := cell_blk (i := 0) hx1 rfl
  have a1 := cell_blk (i := 1) hx1 rfl
  have f0 := free_blk (i := 0) hx1
  have f1 := free_blk (i := 1) hx1
  obtain ⟨w4, hw4⟩ : ∃ w4, w4 = (w2.setCell ⟨w.heap.size, 0, none⟩ (.slice A1 k1 c1)).setCell ⟨w.heap.size, 1, none⟩ (.bool q1) := ⟨_, rfl⟩
  have hx14 : w4.heap[w.heap.size]? = some (.cells #[.slice A1 k1 c1, .bool q1] 24 (0, 0)) := by rw [hw4]; exact set_blk (i := 1) (set_blk (i := 0) hx1 _) _
  have hx24 : w4.heap[w.heap.size + 1]? = some (.cells #[.slice A2 n2 c2, .bool q2] 24 (0, 0)) := by
    rw [hw4]
    exact (Below.heap_setCell _ _ _ _ (by show w.heap.size + 1 ≠ w.heap.size; omega)).trans ((Below.heap_setCell _ _ _ _ (by show w.heap.size + 1 ≠ w.heap.size; omega)).trans hx2)
  have hb4 : Below w.heap.size w w4 := by rw [hw4]; exact ((HB0.out.trans (hb02.mono HB0.out.size)).setCell (p := ⟨w.heap.size, 0, none⟩) (Nat.le_refl _) _).setCell (p := ⟨w.heap.size, 1, none⟩) (Nat.le_refl _) _
  have u0 := cell_blk (i := 0) hx24 rfl
  have u1 := cell_blk (i := 1) hx24 rfl
  have g0 := free_blk (i := 0) hx24
  have g1 := free_blk (i := 1) hx24
  refine wpAnyG_one (i := 6) (by kernel_rfl) rfl rfl (fun K hK => ?_)
  go_simp
  rw [← hw4]
  refine hK.out _ _ (fun _ _ => ⟨u0, u1⟩) ?_
  clear hK K hw4 a0 a1 f0 f1 x0 x1 y0 y1 v0 v1 hx1 hx2
  refine wpAnyG_one (i := 7) (by kernel_rfl) rfl rfl (fun K hK => ?_)
  go_simp
  refine hK.out _ _ (fun h => absurd (by decide) h) ?_
  clear hK K
  obtain ⟨w5, hw5⟩ : ∃ w5, w5 = (w4.setCell ⟨w.heap.size + 1, 0, none⟩ (.slice A2 k2 c2)).setCell ⟨w.heap.size + 1, 1, none⟩ (.bool q2) := ⟨_, rfl⟩
  have hx25 : w5.heap[w.heap.size + 1]? = some (.cells #[.slice A2 k2 c2, .bool q2] 24 (0, 0)) := by rw [hw5]; exact set_blk (i := 1) (set_blk (i := 0) hx24 _) _
  have hx15 : w5.heap[w.heap.size]? = some (.cells #[.slice A1 k1 c1, .bool q1] 24 (0, 0)) := by
    rw [hw5]
    exact (Below.heap_setCell _ _ _ _ (by show w.heap.size ≠ w.heap.size + 1; omega)).trans ((Below.heap_setCell _ _ _ _ (by show w.heap.size ≠ w.heap.size + 1; omega)).trans hx14)
  have hb5 : Below w.heap.size w w5 := by rw [hw5]; exact (hb4.setCell (p := ⟨w.heap.size + 1, 0, none⟩) (Nat.le_succ _) _).setCell (p := ⟨w.heap.size + 1, 1, none⟩) (Nat.le_succ _) _
  rw [← hw5]
  have HX15 := Lib.hid hx15
  have HX25 := Lib.hid hx25
  have HB5 := Lib.hid hb5
  have HD1 := Lib.hid (HL1.out.below hb5 HBW.out)
  have HD2 := Lib.hid (HL2.out.below hb5 HBW.out)
  have HS5 : Hid (B ≤ w5.heap.size) := Nat.le_trans HBW.out hb5.size
  clear hw5 hx14 hx24 hx25 hx15 hb4 hb5 u0 u1 g0 g1 HL1 HL2 HF1 HF2 HSO HB0 HX1 HX2 HZ0 hb01 hb02 hb1 hb2
  refine wpAnyG_one (i := 8) (by kernel_rfl) rfl rfl (fun K hK => ?_)
  go_simp
  refine hK.out _ _ (fun _ h => h) ?_
  clear hK K
  refine wpAnyG_done (by kernel_rfl) ?_ _
  generalize l1.take k1 = l1 at *
  generalize l2.take k2 = l2 at *
  obtain ⟨s', hs'⟩ : ∃ s', s' = s.extract 0 k3 := ⟨_, rfl⟩
  have HSZ : Hid (s'.size ≤ 1000) := by rw [hs']; show (s.extract 0 k3).size ≤ 1000; rw [ByteArray.size_extract]; omega
  rw [← hs']
  clear hs'
  have HT1 := Lib.hid (treeDoc_any A1 k1 c1 l1 q1 w5 B HD1.out HS5.out)
  have HT2 := Lib.hid (fun (u : World) (hu : Below w5.heap.size w5 u) => treeDoc_any A2 k2 c2 l2 q2 u B (HD2.out.below hu HS5.out) (Nat.le_trans HS5.out hu.size))
  obtain ⟨S1, hS1⟩ : ∃ S1 : ByteArray, S1 = ⟨(treeT l1 q1).toArray⟩ := ⟨_, rfl⟩
  obtain ⟨S2, hS2⟩ : ∃ S2 : ByteArray, S2 = ⟨(treeT l2 q2).toArray⟩ := ⟨_, rfl⟩
  obtain ⟨e1, he1⟩ : ∃ e1, checkD l1 = e1 := ⟨_, rfl⟩
  obtain ⟨e2, he2⟩ : ∃ e2, checkD l2 = e2 := ⟨_, rfl⟩
  rw [← hS1, he1] at HT1
  rw [← hS2, he2] at HT2
  have HS1 := Lib.hid hS1
  have HS2 := Lib.hid hS2
  have HE1 := Lib.hid he1
  have HE2 := Lib.hid he2
  have x0 := cell_blk (i := 0) HX15.out rfl
  have x1 := cell_blk (i := 1) HX15.out rfl
  clear hS1 hS2 he1 he2
  go_upto_region 3 with (go_at_call 8; refine HT1.out.mono ?_; rintro e w6 ⟨rfl, hb6⟩; have HB6 := Lib.hid hb6; have y0 := cell_blk (i := 0) ((hb6.block _ (Array.getElem?_eq_some_iff.1 HX25.out).1).trans HX25.out) rfl; have y1 := cell_blk (i := 1) ((hb6.block _ (Array.getElem?_eq_some_iff.1 HX25.out).1).trans HX25.out) rfl; clear hb6)
  go_upto_region 4 with (go_at_call 8; refine (HT2.out w6 HB6.out).mono ?_; rintro e w7 ⟨rfl, hb7⟩)
  have HB7 := Lib.hid (HB6.out.trans (hb7.mono HB6.out.size))
  clear hb7 x0 x1 y0 y1 HT1 HT2 HB6
  have HBW7 := Lib.hid (HB5.out.trans (HB7.out.mono HB5.out.size))
  go_upto_if 34 with fail
  go_cut [] (fun wx => Below w7.heap.size w7 wx)
  case first =>
    by_cases hez : e1 = 0
    · subst hez
      have G1 := good_of HE1.out
      have T1 := tree_of HE1.out
      obtain ⟨c, hback, Cb⟩ := back_tree G1 q1
      have Gc := bk_good G1 Cb
      have hlc := (bk_like G1 Cb 41 0 T1.in0 T1.pos (good_fuel0 G1)).1
      rw [T1.bkN_zero] at hlc
      have hS1 : S1 = ⟨(treeL l1 q1).toArray⟩ := by rw [HS1.out, show treeT l1 q1 = treeL l1 q1 from if_pos HE1.out]
      have hS1s : S1.size ≤ 1000000000 := by
        rw [hS1]
        show (treeL l1 q1).toArray.size ≤ _
        have := tree_short G1 q1 (by have := HD1.out.hn; omega)
        simpa using this
      have HBK := Lib.hid (back_any S1 w7 m (cell_be hm HBW7.out) hS1s)
      have HBR := Lib.hid (show backR S1.data.toList = some (c, q1) from by rw [hS1]; exact hback)
      have HX7 := Lib.hid (show w7.heap[w.heap.size]? = some (.cells #[.slice A1 k1 c1, .bool q1] 24 (0, 0)) ∧ w7.heap[w.heap.size + 1]? = some (.cells #[.slice A2 k2 c2, .bool q2] 24 (0, 0)) ∧ w.heap.size + 1 < w7.heap.size from ⟨(HB7.out.block _ (Array.getElem?_eq_some_iff.1 HX15.out).1).trans HX15.out, (HB7.out.block _ (Array.getElem?_eq_some_iff.1 HX25.out).1).trans HX25.out, Nat.lt_of_lt_of_le (Array.getElem?_eq_some_iff.1 HX25.out).1 HB7.out.size⟩)
      have HD17 := Lib.hid (HD1.out.below HB7.out HS5.out)
      have HD27 := Lib.hid (HD2.out.below HB7.out HS5.out)
      have HS7 : Hid (B ≤ w7.heap.size) := Nat.le_trans HS5.out HB7.out.size
      have HC := Lib.hid (check_of Gc)
      have HLC := Lib.hid hlc
      have HG1 := Lib.hid G1
      have HST1 := Lib.hid hS1
      clear G1 T1 hback Cb Gc hlc hS1 hS1s
      go_upto_region 6 with (go_at_call 9; refine HBK.out.mono ?_; rintro e w8 ⟨hb8, hr8⟩; rw [HBR.out] at hr8; obtain ⟨A', c', rfl, hs8⟩ := hr8; have HS8 := Lib.hid hs8; have HB8 := Lib.hid hb8; clear hs8 hb8)
      obtain ⟨w9, hw9⟩ : ∃ w9, w9 = w8.alloc (.cells #[.slice A' c.length c', .bool q1] 24) := ⟨_, rfl⟩
      have hb89 : Below w8.heap.size w8 w9 := by rw [hw9]; exact (Below.refl _ _).alloc (Nat.le_refl _) _
      have hx39 : w9.heap[w8.heap.size]? = some (.cells #[.slice A' c.length c', .bool q1] 24 (0, 0)) := by rw [hw9]; exact heap_alloc_new w8 _
      have HB9 := Lib.hid (HB8.out.trans (hb89.mono HB8.out.size))
      have hsc : Sl tNd w9 (lt w8.heap.size) A' c.length c' c := (HS8.out.more (D' := lt w8.heap.size) (fun b h => h.2)).below hb89 (Nat.le_refl _)
      have HSA := Lib.hid (same_true2 A' c.length c' c A1 k1 c1 l1 q1 w9 w8.heap.size hsc ((HD17.out.below HB9.out HS7.out).more (fun b h => Nat.lt_of_lt_of_le h (Nat.le_trans HS7.out HB8.out.size))) hb89.size HC.out HE1.out 41 HLC.out)
      have b0 := cell_blk (i := 0) hx39 rfl
      have b1 := cell_blk (i := 1) hx39 rfl
      have a0 := cell_blk (i := 0) ((HB9.out.block _ (by have := HX7.out.2.2; omega)).trans HX7.out.1) rfl
      have a1 := cell_blk (i := 1) ((HB9.out.block _ (by have := HX7.out.2.2; omega)).trans HX7.out.1) rfl
      rw [← hw9]
      clear hw9 hb89 hx39 hsc HBK
      by_cases h2z : e2 = 0
      · subst h2z
        have G2 := good_of HE2.out
        have HSB := Lib.hid (fun (u : World) (hu : Below w7.heap.size w7 u) => same_any A1 k1 c1 l1 A2 k2 c2 l2 q1 q2 u B (HD17.out.below hu HS7.out) (HD27.out.below hu HS7.out) (Nat.le_trans HS7.out hu.size) HE1.out HE2.out 41 (good_fuel0 HG1.out))
        have hS2 : S2 = ⟨(treeL l2 q2).toArray⟩ := by rw [HS2.out, show treeT l2 q2 = treeL l2 q2 from if_pos HE2.out]
        by_cases hlk : q1 = q2 ∧ Like l1 l2 41 0 0
        · have hcmp : (S1.toList == S2.toList) = true := same_says HG1.out G2 HST1.out hS2 (r := true) (by simp [hlk])
          clear G2 hS2
          have HSB := Lib.hid (fun (u : World) (hu : Below w7.heap.size w7 u) => (HSB.out u hu).mono (R' := fun e' w' => e' = .returned (.bool true) ∧ Below u.heap.size u w') fun e' w' ⟨⟨r, h1, h2⟩, h3⟩ => ⟨by rw [h1]; congr 2; exact h2.2 hlk, h3⟩)
          clear hlk
          go_wp2_with (first | (go_at_call 10; with_reducible refine HSA.out.mono ?_; rintro e' w10 ⟨rfl, hb10⟩; have HB10 := Lib.hid (HB9.out.trans (hb10.mono HB9.out.size)); have a0 := cell_blk (i := 0) ((HB10.out.block _ (by have := HX7.out.2.2; omega)).trans HX7.out.1) rfl; have a1 := cell_blk (i := 1) ((HB10.out.block _ (by have := HX7.out.2.2; omega)).trans HX7.out.1) rfl; have a2 := cell_blk (i := 0) ((HB10.out.block _ (by have := HX7.out.2.2; omega)).trans HX7.out.2.1) rfl; have a3 := cell_blk (i := 1) ((HB10.out.block _ (by have := HX7.out.2.2; omega)).trans HX7.out.2.1) rfl; clear hb10) | (go_at_call 10; refine (HSB.out w10 HB10.out).mono ?_; rintro e' w11 ⟨rfl, hb11⟩))
          go_meet
          case rel => exact HB10.out.trans (hb11.mono HB10.out.size)
        · have hcmp : (S1.toList == S2.toList) = false := same_says HG1.out G2 HST1.out hS2 (r := false) (iff_of_false (by decide) hlk)
          clear G2 hS2
          have HSB := Lib.hid (fun (u : World) (hu : Below w7.heap.size w7 u) => (HSB.out u hu).mono (R' := fun e' w' => e' = .returned (.bool false) ∧ Below u.heap.size u w') fun e' w' ⟨⟨r, h1, h2⟩, h3⟩ => ⟨by rw [h1]; congr 2; exact Bool.eq_false_iff.2 (fun e => hlk (h2.1 e)), h3⟩)
          clear hlk
          go_wp2_with (first | (go_at_call 10; with_reducible refine HSA.out.mono ?_; rintro e' w10 ⟨rfl, hb10⟩; have HB10 := Lib.hid (HB9.out.trans (hb10.mono HB9.out.size)); have a0 := cell_blk (i := 0) ((HB10.out.block _ (by have := HX7.out.2.2; omega)).trans HX7.out.1) rfl; have a1 := cell_blk (i := 1) ((HB10.out.block _ (by have := HX7.out.2.2; omega)).trans HX7.out.1) rfl; have a2 := cell_blk (i := 0) ((HB10.out.block _ (by have := HX7.out.2.2; omega)).trans HX7.out.2.1) rfl; have a3 := cell_blk (i := 1) ((HB10.out.block _ (by have := HX7.out.2.2; omega)).trans HX7.out.2.1) rfl; clear hb10) | (go_at_call 10; refine (HSB.out w10 HB10.out).mono ?_; rintro e' w11 ⟨rfl, hb11⟩))
          go_meet
          case rel => exact HB10.out.trans (hb11.mono HB10.out.size)
      · have h2n : (e2 == 0) = false := beq_eq_false_iff_ne.2 h2z
        clear h2z
        go_wp2_with (go_at_call 10; with_reducible refine HSA.out.mono ?_; rintro e' w10 ⟨rfl, hb10⟩; have HB10 := Lib.hid (HB9.out.trans (hb10.mono HB9.out.size)); have a0 := cell_blk (i := 0) ((HB10.out.block _ (by have := HX7.out.2.2; omega)).trans HX7.out.1) rfl; have a1 := cell_blk (i := 1) ((HB10.out.block _ (by have := HX7.out.2.2; omega)).trans HX7.out.1) rfl; have a2 := cell_blk (i := 0) ((HB10.out.block _ (by have := HX7.out.2.2; omega)).trans HX7.out.2.1) rfl; have a3 := cell_blk (i := 1) ((HB10.out.block _ (by have := HX7.out.2.2; omega)).trans HX7.out.2.1) rfl; clear hb10)
        go_meet
        case rel => exact HB10.out
    · have h1n : (e1 == 0) = false := beq_eq_false_iff_ne.2 hez
      clear hez
      go_wp2_with fail
      go_meet
      case rel => exact Below.refl _ _
  case rest =>
  have HBC := Lib.hid (HBW7.out.trans (hcut.mono HBW7.out.size))
  have HBK := Lib.hid (back_any s' wc m (cell_be hm HBC.out) (by have := HSZ.out; omega))
  have HWB := Lib.hid (fun (u : World) (hu : Below w.heap.size w u) => serBegun_any u m (cell_be hm hu))
  obtain ⟨R, hR⟩ : ∃ R, backR s'.data.toList = R := ⟨_, rfl⟩
  have HR := Lib.hid hR
  clear hR hcut
  cases R with
  | none =>
    go_upto_region 9 with (go_at_call 9; refine HBK.out.mono ?_; rintro e w8 ⟨hb8, hr8⟩; rw [HR.out] at hr8; subst hr8; have HB8 := Lib.hid (HBC.out.trans (hb8.mono HBC.out.size)); clear hb8)
    obtain ⟨w9, hw9⟩ : ∃ w9, w9 = w8.alloc (.cells #[.slice none 0 0, .bool false] 24) := ⟨_, rfl⟩
    have hb89 : Below w8.heap.size w8 w9 := by rw [hw9]; exact (Below.refl _ _).alloc (Nat.le_refl _) _
    have hx39 : w9.heap[w8.heap.size]? = some (.cells #[.slice none 0 0, .bool false] 24 (0, 0)) := by rw [hw9]; exact heap_alloc_new w8 _
    have HX39 := Lib.hid hx39
    have HB9 := Lib.hid (HB8.out.trans (hb89.mono HB8.out.size))
    have HBG := Lib.hid (HWB.out w9 HB9.out)
    rw [← hw9]
    clear hw9 hb89 hx39
    go_wp2_with (go_at_call 11; refine HBG.out.mono ?_; rintro e w10 ⟨rfl, hb10⟩; have b0 := cell_blk (i := 0) ((hb10.block _ (Array.getElem?_eq_some_iff.1 HX39.out).1).trans HX39.out) rfl)
    refine bodyPost_ret (v := .bool true) (by simp [results, Tryd.results3, go_sem]) rfl ⟨rfl, HB9.out.trans (hb10.mono HB9.out.size)⟩
  | some r =>
    obtain ⟨l3, q3⟩ := r
    obtain ⟨hc3, ht3⟩ := back_right HR.out
    have HC3 := Lib.hid hc3
    have HT3 := Lib.hid (show (⟨(treeT l3 q3).toArray⟩ : ByteArray) = s' from bytes_ext2 (by rw [show treeT l3 q3 = treeL l3 q3 from if_pos hc3]; exact ht3))
    clear hc3 ht3
    go_upto_region 9 with (go_at_call 9; refine HBK.out.mono ?_; rintro e w8 ⟨hb8, hr8⟩; rw [HR.out] at hr8; obtain ⟨A', c', rfl, hs8⟩ := hr8; have HS8 := Lib.hid hs8; have HB8 := Lib.hid (HBC.out.trans (hb8.mono HBC.out.size)); clear hb8 hs8)
    obtain ⟨w9, hw9⟩ : ∃ w9, w9 = w8.alloc (.cells #[.slice A' l3.length c', .bool q3] 24) := ⟨_, rfl⟩
    have hb89 : Below w8.heap.size w8 w9 := by rw [hw9]; exact (Below.refl _ _).alloc (Nat.le_refl _) _
    have hx39 : w9.heap[w8.heap.size]? = some (.cells #[.slice A' l3.length c', .bool q3] 24 (0, 0)) := by rw [hw9]; exact heap_alloc_new w8 _
    have HB9 := Lib.hid (HB8.out.trans (hb89.mono HB8.out.size))
    have HTD := Lib.hid (treeDoc_any A' l3.length c' l3 q3 w9 w8.heap.size ((HS8.out.more (D' := lt w8.heap.size) (fun b h => h.2)).below hb89 (Nat.le_refl _)) hb89.size)
    rw [HC3.out, HT3.out] at HTD
    have b0 := cell_blk (i := 0) hx39 rfl
    have b1 := cell_blk (i := 1) hx39 rfl
    rw [← hw9]
    clear hw9 hb89 hx39 HBK
    go_upto_region 12 with (go_at_call 8; refine HTD.out.mono ?_; rintro e w10 ⟨rfl, hb10⟩)
    have HB10 := Lib.hid (HB9.out.trans (hb10.mono HB9.out.size))
    have HBG := Lib.hid (HWB.out w10 HB10.out)
    clear hb10 b0 b1
    have hss : (s'.toList == s'.toList) = true := by simp
    go_wp2_with (go_at_call 11; refine HBG.out.mono ?_; rintro e w11 ⟨rfl, hb11⟩)
    refine bodyPost_ret (v := .bool true) (by simp [results, Tryd.results3, go_sem]) rfl ⟨rfl, HB10.out.trans (hb11.mono HB10.out.size)⟩
end Go.Proofs.YtfgmfmkibjfknaaDoor
