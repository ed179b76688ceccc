/-
Points of a document: their room, their paths; the walks of span's ranger: room, path.
-/
import Derived.Test.YtcnogokemilhnaaDoorSpanCmp
import Derived.Test.YtcnogokemilhnaaDoorEdBase
namespace Go.Proofs.YtcnogokemilhnaaDoor
open Go.RowKit Go.Cl
attribute [local go_sem ↓] Go.wp_at_zero Go.wp_at_succ

/-- A point. -/
structure Pt where
  node : Int
  at_ : Int
/-- Behind how much a point may be. -/
def roomD (l : List Nd) (n : Int) : Nat := match l[n.toNat]? with
  | none => 0
  | some x => if x.kind = 3 ∨ x.kind = 4 then x.text.size else x.kids.length
/-- From a node up, kid by kid. -/
def stepsF (l : List Nd) : Nat → Int → List Int
  | 0, _ => []
  | f + 1, z => if z ≤ 0 then [] else (2 * Lib.idxOf (kidsD l (parD l z)) z + 1) :: stepsF l f (parD l z)
def stepsR (l : List Nd) (z : Int) : List Int := stepsF l (depZ l z) z
def pathP (l : List Nd) (p : Pt) : List Int := (2 * p.at_ :: stepsR l p.node).reverse
theorem steps_root {l : List Nd} (T : Tree l) : stepsR l 0 = [] := by
  unfold stepsR
  have := T.dep_par T.pos
  have hr : parD l ((0 : Nat) : Int) = -1 := T.root
  rw [hr] at this
  have h0 : depZ l (-1) = 0 := rfl
  rw [h0] at this
  rw [show depZ l 0 = 1 from this.symm, stepsF, if_pos (by omega)]
theorem Tree.steps_up {l : List Nd} (T : Tree l) {m : Nat} (hm : m < l.length) (h0 : 0 < m) : stepsR l m = (2 * Lib.idxOf (kidsD l (parD l m)) m + 1) :: stepsR l (parD l m) := by
  unfold stepsR
  rw [← T.dep_par hm, stepsF, if_neg (by omega)]
theorem Tree.steps_len {l : List Nd} (T : Tree l) : ∀ (f m : Nat), m < l.length → upN l m < f → (stepsR l m).length ≤ upN l m + 1 := by
  intro f
  induction f with
  | zero => intro m _ h; omega
  | succ f ih =>
    intro m hm hf
    rcases Nat.eq_zero_or_pos m with h0 | h0
    · subst h0
      have := steps_root T
      rw [show ((0 : Nat) : Int) = 0 from rfl, this]
      simp
    · rw [T.steps_up hm h0]
      rcases T.par hm with e | ⟨p, e, hp, _⟩
      · rw [e]
        have : stepsR l (-1) = [] := rfl
        rw [this]
        simp
      · rw [e]
        have h1 := (T.up_par hm e).2
        have h2 := ih p hp (by omega)
        simp only [List.length_cons]
        omega
theorem Tree.path_few {l : List Nd} (T : Tree l) {m : Nat} (hm : m < l.length) (a : Int) : (pathP l ⟨m, a⟩).length ≤ 42 := by
  unfold pathP
  have := T.steps_len _ m hm (Nat.lt_succ_self _)
  have := (T.deep m hm).1
  rw [List.length_reverse, List.length_cons]
  simp only
  omega
theorem Tree.top_loose2 {l : List Nd} (T : Tree l) {m : Nat} (hm : m < l.length) (h : parD l m = -1) : topR l m = (m : Int) := by
  unfold topR
  rw [T.chain_step hm, h, chain_end]
  rfl

set_option maxRecDepth 100000 in
set_option maxHeartbeats 1000000 in
theorem room_any (A : Option Addr) (n c : Nat) (l : List Nd) (q : Bool) (m : Nat) (w : World) (B : Nat) (hl : Sl tNd w (lt B) A n c l) (hB : B ≤ w.heap.size) (hm : m < l.length) :
    Calls Tryd.prog 95 #[.agg #[.slice A n c, .bool q], .int .i64 (m : Int)] w fun e w' => e = .returned (.int .i64 (roomD l m : Nat)) ∧ Below w.heap.size w w' := by
  obtain ⟨w0, hw0⟩ : ∃ w0, w0 = w.alloc (.cells #[.slice A n c, .bool q] 106) := ⟨_, rfl⟩
  have hbx : w0.heap[w.heap.size]? = some (.cells #[.slice A n c, .bool q] 106 (0, 0)) := by rw [hw0]; exact heap_alloc_new w _
  have b0 : w0.cell? ⟨w.heap.size, 0, none⟩ = some (.slice A n c) := cell_blk hbx rfl
  have hb0 : Below w.heap.size w w0 := by rw [hw0]; exact (Below.refl _ _).alloc (Nat.le_refl _) _
  have HB0 := Lib.hid hb0
  have hmn : m < n := by have := hl.hn; omega
  obtain ⟨x, hx⟩ := get_some hm
  obtain ⟨b, o, rfl, hd⟩ := doc_at (hl.below hb0 hB) (by omega)
  obtain ⟨Aa, na, ca, Ak, nk, ck, hnd, c0, c1, c2, c3, c4, c5⟩ := hd.at_ m x hx
  have HRM := Lib.hid (show roomD l m = if x.kind = 3 ∨ x.kind = 4 then x.text.size else x.kids.length from by unfold roomD; rw [Int.toNat_natCast, hx])
  have HNK := Lib.hid hnd.kids.hn
  have hcap := hl.hc
  have i1 : (0 : Int) ≤ (m : Int) := by omega
  have i2 : (m : Int) < (n : Int) := by omega
  clear hb0 hbx hl hd hnd hx hm
  go_enter Tryd.func95, Tryd.ntmps95
  go_upto_region 1 with fail
  rw [← hw0]
  clear hw0
  go_upto_region 2 with fail
  have hbf : Below w.heap.size w (w0.alloc (.cells #[.int .i64 x.kind, .string x.name, .slice Aa na ca, .string x.text, .int .i64 x.parent, .slice Ak nk ck] 38)) := HB0.out.alloc HB0.out.size _
  have HBF := Lib.hid hbf
  clear hbf
  by_cases h3 : x.kind = 3
  · have HR := Lib.hid (HRM.out.trans (if_pos (Or.inl h3)))
    have k3 : (x.kind == 3) = true := by simpa using h3
    clear h3
    go_wp2_with fail
    go_ret
    exact ⟨by rw [HR.out]; rfl, HBF.out⟩
  · have k3 : (x.kind == 3) = false := beq_eq_false_iff_ne.2 h3
    by_cases h4 : x.kind = 4
    · have HR := Lib.hid (HRM.out.trans (if_pos (Or.inr h4)))
      have k4 : (x.kind == 4) = true := by simpa using h4
      clear h3 h4
      go_wp2_with fail
      go_ret
      exact ⟨by rw [HR.out]; rfl, HBF.out⟩
    · have HR := Lib.hid (HRM.out.trans (if_neg (by omega)))
      have k4 : (x.kind == 4) = false := beq_eq_false_iff_ne.2 h4
      clear h3 h4
      go_wp2_with fail
      go_ret
      exact ⟨by rw [HR.out, ← HNK.out]; rfl, HBF.out⟩
/-- What a point's path is, in memory. -/
def PaPost (w : World) (l : List Nd) (p : Pt) (e : Ending) (w' : World) : Prop :=
  Below w.heap.size w w' ∧ ((topR l p.node ≠ 0 ∧ e = .returned (.slice none 0 0)) ∨
    (topR l p.node = 0 ∧ ∃ g c', e = .returned (.slice (some ⟨g, 0, none⟩) (pathP l p).length c') ∧ OwnF (tInt .i64) w' w.heap.size 3 (.slice (some ⟨g, 0, none⟩) (pathP l p).length c') (pathP l p).length (pathP l p)))
set_option maxRecDepth 100000 in
set_option maxHeartbeats 4000000 in
theorem path_any (A : Option Addr) (n c : Nat) (l : List Nd) (q : Bool) (m : Nat) (a : Int) (w : World) (B : Nat) (hl : Sl tNd w (lt B) A n c l) (hB : B ≤ w.heap.size) (T : Tree l) (hm : m < l.length) (ha0 : 0 ≤ a) (ha : a ≤ 1152921504606846976) :
    Calls Tryd.prog 94 #[.agg #[.slice A n c, .bool q], .agg #[.int .i64 (m : Int), .int .i64 a]] w (PaPost w l ⟨m, a⟩) := by
  obtain ⟨wa, hwa⟩ : ∃ wa, wa = w.alloc (.cells #[.slice A n c, .bool q] 106) := ⟨_, rfl⟩
  obtain ⟨w0, hw0⟩ : ∃ w0, w0 = wa.alloc (.cells #[.int .i64 (m : Int), .int .i64 a] 57) := ⟨_, rfl⟩
  have za : wa.heap.size = w.heap.size + 1 := by rw [hwa]; exact World.size_alloc w _
  have hx1 : w0.heap[w.heap.size]? = some (.cells #[.slice A n c, .bool q] 106 (0, 0)) := by rw [hw0, Lib.alloc_old _ _ _ (by omega), hwa]; exact heap_alloc_new w _
  have hx2 : w0.heap[w.heap.size + 1]? = some (.cells #[.int .i64 (m : Int), .int .i64 a] 57 (0, 0)) := by rw [hw0, ← za]; exact heap_alloc_new wa _
  have hb0 : Below w.heap.size w w0 := by rw [hw0, hwa]; exact ((Below.refl _ _).alloc (Nat.le_refl _) _).alloc (by simp) _
  have hz0 : w0.heap.size = w.heap.size + 2 := by rw [hw0, World.size_alloc, za]
  have p0 : w0.cell? ⟨w.heap.size + 1, 0, none⟩ = some (.int .i64 (m : Int)) := cell_blk hx2 rfl
  have p1 : w0.cell? ⟨w.heap.size + 1, 1, none⟩ = some (.int .i64 a) := cell_blk hx2 rfl
  have HX1 := Lib.hid hx1
  have HB0 := Lib.hid hb0
  have HZ0 := Lib.hid hz0
  have HT := Lib.hid T
  have HN := Lib.hid hl.hn
  have hcap := hl.hc
  have hn0 : 0 < n := by have := hl.hn; omega
  obtain ⟨b, o, rfl, hd⟩ := doc_at (hl.below hb0 hB) hn0
  have HD := Lib.hid hd
  have HBW : Hid (B ≤ w.heap.size) := hB
  have hsm := T.small
  clear za hx1 hx2 hb0 hl hB T hd hz0
  go_enter Tryd.func94, Tryd.ntmps94
  go_upto_region 1 with fail
  rw [← hwa, ← hw0]
  clear hwa hw0
  go_upto_region 2 with fail
  obtain ⟨w1, hw1⟩ : ∃ w1, w1 = w0.alloc (.cells #[.int .i64 (2 * a)] 3) := ⟨_, rfl⟩
  rw [← hw1]
  have hb1 : Below w0.heap.size w0 w1 := by rw [hw1]; exact (Below.refl _ _).alloc (Nat.le_refl _) _
  have HB1 := Lib.hid (HB0.out.trans (hb1.mono HB0.out.size))
  have hown1 : OwnF (tInt .i64) w1 w0.heap.size 3 (.slice (some ⟨w0.heap.size, 0, none⟩) [2 * a].length 1) [2 * a].length [2 * a] := by
    rw [hw1]
    exact own_of (heap_alloc_new w0 _) (Nat.le_refl _) rfl (Nat.le_refl _) (by unfold maxLen; omega) rfl rfl (fun x hx => by
      obtain rfl : x = 2 * a := by simpa using hx
      exact WalkArith.wf_i64 (by omega))
  have HX11 := Lib.hid ((hb1.block _ (by have := HZ0.out; omega)).trans HX1.out)
  have HD1 := Lib.hid (HD.out.below hb1 (Nat.le_trans HBW.out HB0.out.size))
  have hz1 : w0.heap.size ≤ w1.heap.size := hb1.size
  have H0 : Hid (Below w0.heap.size w1 w1) := Below.refl _ _
  have HOW1 := Lib.hid hown1
  have HST : Hid (∀ W, Below w0.heap.size w1 W → W.cell? ⟨w.heap.size, 0, none⟩ = some (.slice (some ⟨b, o, none⟩) n c) ∧ DocAt W B b o n l) := fun W hW => ⟨cell_blk ((hW.block _ (by have := HZ0.out; omega)).trans HX11.out) rfl, HD1.out.below hW (Nat.le_trans HBW.out HB0.out.size)⟩
  have q0 := cell_be p0 hb1
  clear hw1 hb1 hown1 p0 p1
  go_wp2_with fail
  go_loopw [6, 5] (fun s v wr => ∃ (z : Nat) (xs : List Int), s = .int .i64 (z : Int) ∧ z < l.length ∧ 0 < xs.length ∧ Hid (xs ++ stepsR l z = 2 * a :: stepsR l m ∧ topR l z = topR l m) ∧ Hid (Below w0.heap.size w1 wr) ∧ Hid (OwnF (tInt .i64) wr w0.heap.size 3 v xs.length xs)) (fun s _ _ => depZ l (intOf s))
  case atStart => exact ⟨m, [2 * a], rfl, hm, Nat.one_pos, Lib.hid ⟨rfl, rfl⟩, H0, HOW1⟩
  case round =>
    obtain ⟨z, xs, rfl, hz, hxp, HC, HB, HOW⟩ := hrel
    obtain ⟨x0, hd⟩ := HST.out wr HB.out
    obtain ⟨A5, c5, rfl⟩ := Own.form HOW.out
    have hxl : xs.length ≤ 42 := by
      have h1 := congrArg List.length HC.out.1
      have h2 := HT.out.path_few hm a
      unfold pathP at h2
      rw [List.length_append] at h1
      rw [List.length_reverse] at h2
      simp only [List.length_cons] at h1 h2
      omega
    have hBr := HB.out.size
    by_cases hz0 : z = 0
    · have hx : xs = 2 * a :: stepsR l m := by
        have h1 := HC.out.1
        rw [hz0, show ((0 : Nat) : Int) = 0 from rfl, steps_root HT.out, List.append_nil] at h1
        exact h1
      have ht : topR l m = 0 := by
        rw [← HC.out.2, hz0]
        have h1 := HT.out.path_top HT.out.pos
        have h2 : parD l ((0 : Nat) : Int) = -1 := HT.out.root
        have h3 := HT.out.top_loose2 HT.out.pos h2
        exact h3
      have hpp : pathP l ⟨m, a⟩ = xs.reverse := by unfold pathP; rw [hx]
      obtain ⟨gg, cells, rfl, hgg, hgl, hrow, hcell, hfz⟩ := Own.block HOW.out hxp
      have HREV := Lib.hid (fun k => own_rev (k := k) HOW.out)
      have HRV := Lib.hid (fun W (h : W = wr) => Tryd.slices_Reverse_int_cells gg 0 xs.length c5 xs W (Nat.le_refl _) (by omega) (fun j hj => by
        obtain ⟨x, hx⟩ := get_some hj
        obtain ⟨cs, ⟨rfl, _⟩, hj2⟩ := hrow.at_ hx
        have h3 := hj2 0 _ rfl
        rw [h, Nat.zero_add, hcell j (.int .i64 x) (by simpa [tInt] using h3), List.getD, hx]
        rfl) (fun j _ => by rw [h, Nat.zero_add]; exact hfz j))
      have hng : ¬ (0 : Int) < (z : Int) := by omega
      have HT0 := Lib.hid ht
      have HPP := Lib.hid hpp
      have HGG := Lib.hid hgg
      have HBF := Lib.hid (HB1.out.trans (HB.out.mono HB0.out.size))
      clear hrow hcell hfz hx ht hpp hz0 hgg hd
      go_wp2_with (go_at_call 75; refine (HRV.out _ rfl).mono ?_; rintro e w2 ⟨rfl, kq, rfl⟩; rw [List.take_length])
      go_ret
      rw [← List.map_reverse]
      refine ⟨HBF.out.trans (((HREV.out kq).2 HGG.out).mono HB0.out.size), Or.inr ⟨HT0.out, gg, c5, ?_, ?_⟩⟩
      · rw [HPP.out, List.length_reverse]
        rfl
      · rw [HPP.out, List.length_reverse]
        exact Own.down (HREV.out kq).1 HB0.out.size
    · have hg0 : (0 : Int) < (z : Int) := by omega
      have i1 : (0 : Int) ≤ (z : Int) := by omega
      have i2 : (z : Int) < (n : Int) := by have := HN.out; omega
      obtain ⟨nd, hnd⟩ := get_some hz
      obtain ⟨_, _, _, _, _, _, _, _, _, _, _, c4, _⟩ := hd.at_ z nd hnd
      have hpd := parD_at hnd
      rcases HT.out.par hz with hp | ⟨p, hp, hpl, hmem⟩
      · rw [← hpd, hp] at c4
        have ht : topR l m ≠ 0 := by
          rw [← HC.out.2, HT.out.top_loose2 hz hp]
          omega
        have HTN := Lib.hid ht
        have HBF := Lib.hid (HB1.out.trans (HB.out.mono HB0.out.size))
        clear hnd hpd hp ht hd hz0
        go_wp2_with fail
        go_ret
        exact ⟨HBF.out, Or.inl ⟨HTN.out, rfl⟩⟩
      · obtain ⟨pd, hpnd⟩ := get_some hpl
        obtain ⟨_, _, _, _, nk, ck, hpat, _, _, _, _, _, c5'⟩ := hd.at_ p pd hpnd
        obtain ⟨ii, hii, hix, _⟩ := idx_of_mem hmem
        rw [kidsD_at hpnd] at hii hix
        have hil := (List.getElem?_eq_some_iff.1 hix).1
        have hkn := hpat.kids.small
        have hkhn := hpat.kids.hn
        have HIX := Lib.hid (index_int _ _ _ pd.kids (z : Int) wr _ hpat.kids)
        rw [hii] at HIX
        have hst := HT.out.steps_up hz (by omega)
        rw [hp, kidsD_at hpnd, hii] at hst
        have HCN : Hid ((xs ++ [2 * (ii : Int) + 1]) ++ stepsR l p = 2 * a :: stepsR l m ∧ topR l p = topR l m) := by
          refine ⟨?_, (HT.out.top_par hz hpl hp).symm.trans HC.out.2⟩
          rw [← HC.out.1, hst, List.append_assoc]
          rfl
        rw [← hpd, hp] at c4
        have i3 : ¬ (p : Int) < 0 := by omega
        have i4 : (0 : Int) ≤ (p : Int) := by omega
        have i5 : (p : Int) < (n : Int) := by have := HN.out; omega
        have HDP := Lib.hid (HT.out.dep_par hz)
        have hii2 : ii ≤ 140737488355328 := by omega
        have HPD := Lib.hid hpd
        have HPE := Lib.hid hp
        clear hst hix hii hpat hpnd hmem hnd hd hz0 hpd hp hkhn hil
        go_upto_region 4 with (first
          | (go_at_call 96; refine HIX.out.mono ?_; rintro e w2 ⟨rfl, hw2⟩; obtain rfl : wr = w2 := hw2.symm)
          | (at_builtin; refine wpList_ap1 _ rfl (.tmp 32) (.tmp 44) 32 rfl elemI (v := .slice A5 xs.length c5) (D := fun _ => False) rfl (OwnF.al HOW.out _) (fun _ h => h.elim) (y := 2 * (ii : Int) + 1) (cs := [.int .i64 (2 * (ii : Int) + 1)]) rfl ⟨rfl, WalkArith.wf_i64 (by omega)⟩ (cell_new _ _ _) (by omega) (by omega) (by rw [World.size_alloc]; omega) ?_; intro v9 w9 hown9 _ hbl9 _))
        have hb9 : Below w0.heap.size wr w9 := ((Below.refl _ _).alloc (by omega) _).trans hbl9
        have HB9 := Lib.hid (HB.out.trans hb9)
        obtain ⟨x9, hd9⟩ := HST.out w9 HB9.out
        obtain ⟨nd, hnd⟩ := get_some hz
        obtain ⟨_, _, _, _, _, _, _, _, _, _, _, c49, _⟩ := hd9.at_ z nd hnd
        rw [show nd.parent = (p : Int) from by rw [← parD_at hnd]; exact HPE.out] at c49
        have HOW9 : Hid (OwnF (tInt .i64) w9 w0.heap.size 3 v9 (xs ++ [2 * (ii : Int) + 1]).length (xs ++ [2 * (ii : Int) + 1])) := by rw [List.length_append]; exact hown9
        have HPL := Lib.hid hpl
        clear hb9 hbl9 hd9 hnd hown9 x0 c4 c5' HIX hpl
        go_wp2_with fail
        go_roundw
        case rel => exact ⟨p, xs ++ [2 * (ii : Int) + 1], rfl, HPL.out, by simp, HCN, HB9, HOW9⟩
        case measure =>
          have h1 := HDP.out
          rw [HPE.out] at h1
          simp only [intOf]
          omega
end Go.Proofs.YtcnogokemilhnaaDoor
