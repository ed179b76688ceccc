/-
The walk of span's moved, for the other edits.
-/
import Derived.Test.YtcnogokemilhnaaDoorSpanMoved
import Derived.Test.YtcnogokemilhnaaDoorSpanStaysLaw
import Derived.Test.YtcnogokemilhnaaDoorEdWalksB
namespace Go.Proofs.YtcnogokemilhnaaDoor
open Go.RowKit Go.Cl
attribute [local go_sem ↓] Go.wp_at_zero Go.wp_at_succ

/-- The boxes of moved: the ranger, the point, the edit, what it says. -/
structure MB (w : World) (A : Option Addr) (n c : Nat) (q : Bool) (pn pa : Int) (cells : Array Value) (u : World) : Prop where
  below : Below w.heap.size w u
  r_ : u.heap[w.heap.size]? = some (.cells #[.slice A n c, .bool q] 106 (0, 0))
  p_ : u.heap[w.heap.size + 1]? = some (.cells #[.int .i64 pn, .int .i64 pa] 57 (0, 0))
  e_ : u.heap[w.heap.size + 1 + 1]? = some (.cells cells 53 (0, 0))
  o_ : u.heap[w.heap.size + 1 + 1 + 1]? = some (.cells #[.int .i64 0, .int .i64 0] 57 (0, 0))
theorem mb_of {w wa wb wd w0 : World} {A : Option Addr} {n c : Nat} {q : Bool} {pn pa : Int} {cells : Array Value} (hwa : wa = w.alloc (.cells #[.slice A n c, .bool q] 106)) (hwb : wb = wa.alloc (.cells #[.int .i64 pn, .int .i64 pa] 57)) (hwd : wd = wb.alloc (.cells cells 53)) (hw0 : w0 = wd.alloc (.cells #[.int .i64 0, .int .i64 0] 57)) : MB w A n c q pn pa cells w0 := by
  have za : wa.heap.size = w.heap.size + 1 := by rw [hwa]; exact World.size_alloc w _
  have zb : wb.heap.size = w.heap.size + 1 + 1 := by rw [hwb, World.size_alloc, za]
  have zd : wd.heap.size = w.heap.size + 1 + 1 + 1 := by rw [hwd, World.size_alloc, zb]
  refine ⟨?_, ?_, ?_, ?_, ?_⟩
  · rw [hw0, hwd, hwb, hwa]; exact ((((Below.refl _ _).alloc (Nat.le_refl _) _).alloc (by simp) _).alloc (by simp; omega) _).alloc (by simp; omega) _
  · rw [hw0, Lib.alloc_old _ _ _ (by omega), hwd, Lib.alloc_old _ _ _ (by omega), hwb, Lib.alloc_old _ _ _ (by omega), hwa]; exact heap_alloc_new w _
  · rw [hw0, Lib.alloc_old _ _ _ (by omega), hwd, Lib.alloc_old _ _ _ (by omega), hwb, ← za]; exact heap_alloc_new wa _
  · rw [hw0, Lib.alloc_old _ _ _ (by omega), hwd, ← zb]; exact heap_alloc_new wb _
  · rw [hw0, ← zd]; exact heap_alloc_new wd _
theorem MB.next {w : World} {A : Option Addr} {n c : Nat} {q : Bool} {pn pa : Int} {cells : Array Value} {u u' : World} (h : MB w A n c q pn pa cells u) (hb : Below u.heap.size u u') : MB w A n c q pn pa cells u' :=
  ⟨h.below.trans (hb.mono h.below.size), (hb.block _ (Array.getElem?_eq_some_iff.1 h.r_).1).trans h.r_, (hb.block _ (Array.getElem?_eq_some_iff.1 h.p_).1).trans h.p_, (hb.block _ (Array.getElem?_eq_some_iff.1 h.e_).1).trans h.e_, (hb.block _ (Array.getElem?_eq_some_iff.1 h.o_).1).trans h.o_⟩
theorem MB.setAt {w : World} {A : Option Addr} {n c : Nat} {q : Bool} {pn pa v : Int} {cells : Array Value} {u u' : World} (h : MB w A n c q pn pa cells u) (hu : u' = u.setCell ⟨w.heap.size + 1, 1, none⟩ (.int .i64 v)) : MB w A n c q pn v cells u' := by
  have n1 : w.heap.size ≠ w.heap.size + 1 := by omega
  have n2 : w.heap.size + 1 + 1 ≠ w.heap.size + 1 := by omega
  have n3 : w.heap.size + 1 + 1 + 1 ≠ w.heap.size + 1 := by omega
  rw [hu]
  exact ⟨h.below.setCell (p := ⟨w.heap.size + 1, 1, none⟩) (by show w.heap.size ≤ w.heap.size + 1; omega) _, (Below.heap_setCell _ _ _ _ n1).trans h.r_, set_blk (i := 1) h.p_ _, (Below.heap_setCell _ _ _ _ n2).trans h.e_, (Below.heap_setCell _ _ _ _ n3).trans h.o_⟩
/-- Where a point goes when a node is put in. -/
def insTo (ks : List Int) (p : Pt) (e : Edt) : Int := if p.node = e.at_ ∧ insAt ks e.before < p.at_ then p.at_ + 1 else p.at_
/-- Where a point goes when a node leaves. -/
def remTo (l : List Nd) (p : Pt) (pp i m : Nat) : Int × Int := if belowB l p.node m = true then ((pp : Int), (i : Int)) else if p.node = (pp : Int) ∧ (i : Int) < p.at_ then (p.node, p.at_ - 1) else (p.node, p.at_)
def elseTo (p : Pt) : Int := p.at_
set_option maxRecDepth 100000 in
set_option maxHeartbeats 4000000 in
theorem moved_else (A : Option Addr) (n c : Nat) (q : Bool) (p : Pt) (e : Edt) (Aa : Option Addr) (na ca : Nat) (Ak : Option Addr) (nk ck : Nat) (w : World) (h3 : e.do_ ≠ 3) (h5 : e.do_ ≠ 5) (h6 : e.do_ ≠ 6) :
    Calls Tryd.prog 62 #[.agg #[.slice A n c, .bool q], .agg #[.int .i64 p.node, .int .i64 p.at_], .agg (edtCells e Aa na ca Ak nk ck)] w fun e' w' => e' = .returned (.agg #[.int .i64 p.node, .int .i64 (elseTo p)]) ∧ Below w.heap.size w w' := by
  obtain ⟨wa, hwa⟩ : ∃ wa, wa = w.alloc (.cells #[.slice A n c, .bool q] 106) := ⟨_, rfl⟩
  obtain ⟨wb, hwb⟩ : ∃ wb, wb = wa.alloc (.cells #[.int .i64 p.node, .int .i64 p.at_] 57) := ⟨_, rfl⟩
  obtain ⟨wd, hwd⟩ : ∃ wd, wd = wb.alloc (.cells (edtCells e Aa na ca Ak nk ck) 53) := ⟨_, rfl⟩
  obtain ⟨w0, hw0⟩ : ∃ w0, w0 = wd.alloc (.cells #[.int .i64 0, .int .i64 0] 57) := ⟨_, rfl⟩
  have hmb := mb_of hwa hwb hwd hw0
  have HMB := Lib.hid hmb

  have e0 := cell_blk (i := 0) hmb.e_ (v := .int .i64 e.do_) rfl
  have b3 : (e.do_ == 3) = false := beq_eq_false_iff_ne.2 h3
  have b5 : (e.do_ == 5) = false := beq_eq_false_iff_ne.2 h5
  have b6 : (e.do_ == 6) = false := beq_eq_false_iff_ne.2 h6
  have HR := Lib.hid (show elseTo p = p.at_ from rfl)
  clear hmb h3 h5 h6
  go_enter Tryd.func62, Tryd.ntmps62
  unfold edtCells at *
  go_upto_region 1 with fail
  rw [← hwa, ← hwb, ← hwd, ← hw0]
  clear hwa hwb hwd hw0
  have y2 := HMB.out.p_
  have y4 := HMB.out.o_
  have q0 := cell_blk (i := 0) y2 rfl
  have q1 := cell_blk (i := 1) y2 rfl
  have l0 := cell_blk (i := 0) y4 rfl
  have l1 := cell_blk (i := 1) y4 rfl
  have m0 := free_blk (i := 0) y4
  have m1 := free_blk (i := 1) y4
  have hrs8 := set_blk (i := 0) y4 (.int .i64 p.node)
  have hrs9 := set_blk (i := 1) hrs8 (.int .i64 p.at_)
  have u0 := cell_blk (i := 0) (v := .int .i64 p.node) hrs9 rfl
  have u1 := cell_blk (i := 1) (v := .int .i64 p.at_) hrs9 rfl
  have HBF := Lib.hid ((HMB.out.below.setCell (p := ⟨w.heap.size + 1 + 1 + 1, 0, none⟩) (by show w.heap.size ≤ w.heap.size + 1 + 1 + 1; omega) (.int .i64 p.node)).setCell (p := ⟨w.heap.size + 1 + 1 + 1, 1, none⟩) (by show w.heap.size ≤ w.heap.size + 1 + 1 + 1; omega) (.int .i64 p.at_))
  clear y2 y4 hrs8 hrs9
  go_wp2_with fail
  refine bodyPost_ret (v := .agg #[.int .i64 p.node, .int .i64 p.at_]) (by simp [results, Tryd.results62, go_sem, u0, u1]) rfl ⟨by rw [HR.out], HBF.out⟩

set_option maxRecDepth 100000 in
set_option maxHeartbeats 4000000 in
theorem moved_ins (A : Option Addr) (n c : Nat) (l : List Nd) (q : Bool) (p : Pt) (e : Edt) (Aa : Option Addr) (na ca : Nat) (Ak : Option Addr) (nk ck : Nat) (w : World) (B : Nat) (hl : Sl tNd w (lt B) A n c l) (hB : B ≤ w.heap.size) (m : Nat) (x : Nd) (h5 : e.do_ = 5) (hm : e.at_ = (m : Int)) (hx : l[m]? = some x) (hroom : roomD l m = x.kids.length) (hbf : e.before = -1 ∨ 0 ≤ e.before) (hp0 : 0 ≤ p.at_) (hp1 : p.at_ ≤ 1152921504606846976) :
    Calls Tryd.prog 62 #[.agg #[.slice A n c, .bool q], .agg #[.int .i64 p.node, .int .i64 p.at_], .agg (edtCells e Aa na ca Ak nk ck)] w fun e' w' => e' = .returned (.agg #[.int .i64 p.node, .int .i64 (insTo x.kids p e)]) ∧ Below w.heap.size w w' := by
  obtain ⟨wa, hwa⟩ : ∃ wa, wa = w.alloc (.cells #[.slice A n c, .bool q] 106) := ⟨_, rfl⟩
  obtain ⟨wb, hwb⟩ : ∃ wb, wb = wa.alloc (.cells #[.int .i64 p.node, .int .i64 p.at_] 57) := ⟨_, rfl⟩
  obtain ⟨wd, hwd⟩ : ∃ wd, wd = wb.alloc (.cells (edtCells e Aa na ca Ak nk ck) 53) := ⟨_, rfl⟩
  obtain ⟨w0, hw0⟩ : ∃ w0, w0 = wd.alloc (.cells #[.int .i64 0, .int .i64 0] 57) := ⟨_, rfl⟩
  have hmb := mb_of hwa hwb hwd hw0
  have HMB := Lib.hid hmb

  have hml := (List.getElem?_eq_some_iff.1 hx).1
  have hmn : m < n := by have := hl.hn; omega
  have HRO := Lib.hid (room_any A n c l q m w0 B (hl.below hmb.below hB) (Nat.le_trans hB hmb.below.size) hml)
  rw [hroom] at HRO
  obtain ⟨b, o, rfl, hd⟩ := doc_at hl (by omega)
  have HD := Lib.hid (fun W (hb : Below w.heap.size w W) => hd.below hb hB)
  have hcap := hl.hc
  have HM := Lib.hid hm
  have HX := Lib.hid hx
  have x0 := cell_blk (i := 0) hmb.r_ rfl
  have x1 := cell_blk (i := 1) hmb.r_ rfl
  have e0 := cell_blk (i := 0) hmb.e_ (v := .int .i64 5) (by rw [← h5]; rfl)
  have e1 := cell_blk (i := 1) hmb.e_ (v := .int .i64 m) (by rw [← hm]; rfl)
  clear hmb hl hB hd hx hm h5 hroom hml
  go_enter Tryd.func62, Tryd.ntmps62
  go_upto_region 1 with fail
  rw [← hwa, ← hwb, ← hwd, ← hw0]
  clear hwa hwb hwd hw0
  go_upto_region 4 with (go_at_call 95; refine HRO.out.mono ?_; rintro e' w1 ⟨rfl, hb1⟩)
  have H1 := Lib.hid (HMB.out.next hb1)
  clear x0 x1 e0 e1 hb1 HMB HRO
  have e3 := cell_blk (i := 3) H1.out.e_ (v := .int .i64 e.before) rfl
  by_cases hbv : 0 ≤ e.before
  · have HI := Lib.hid (show insAt x.kids e.before = Lib.idxOf x.kids e.before from if_neg (by omega))
    have x0 := cell_blk (i := 0) H1.out.r_ rfl
    have e1 := cell_blk (i := 1) H1.out.e_ (v := .int .i64 m) (by rw [← HM.out]; rfl)
    obtain ⟨_, _, _, A5, n5, c5, hnd, _, _, _, _, _, k5⟩ := (HD.out w1 H1.out.below).at_ m x HX.out
    have HIX := Lib.hid (fun k => quiet_l ((index_int A5 n5 c5 x.kids e.before (w1.drewN k) _ (sl_drewN hnd.kids k)).mono fun _ _ h => ⟨h.1, h.2.symm⟩))
    have i1 : (0 : Int) ≤ (m : Int) := by omega
    have i2 : (m : Int) < (n : Int) := by omega
    have HP0 := Lib.hid hp0
    clear hnd hbf hp0
    go_upto_region 5 with fail
    go_quiet ((go_at_call 96; exact HIX.out _))
    generalize hw2 : w1.drewN _ = w2
    have H2 := Lib.hid (H1.out.next (u' := w2) (by rw [← hw2]; exact below_dN (Below.refl _ _) _))
    clear hw2 x0 e1 k5 e3 HIX H1
    have hp0 := HP0.out
    generalize Lib.idxOf x.kids e.before = ix at *
    have e1 := cell_blk (i := 1) H2.out.e_ (v := .int .i64 m) (by rw [← HM.out]; rfl)
    have p0 := cell_blk (i := 0) H2.out.p_ rfl
    have p1 := cell_blk (i := 1) H2.out.p_ rfl
    have f1 := free_blk (i := 1) H2.out.p_
    by_cases hn : p.node = (m : Int)
    · have hn1 : (p.node == (m : Int)) = true := by simpa using hn
      by_cases hi : (ix : Int) < p.at_
      · have HR := Lib.hid (show insTo x.kids p e = p.at_ + 1 from if_pos ⟨by rw [HM.out]; exact hn, by rw [HI.out]; exact hi⟩)
        obtain ⟨w7, hw7⟩ : ∃ w7, w7 = w2.setCell ⟨w.heap.size + 1, 1, none⟩ (.int .i64 (p.at_ + 1)) := ⟨_, rfl⟩
        have H7 := Lib.hid (H2.out.setAt hw7)
        have wz : IntKind.i64.wrap (p.at_ + 1) = p.at_ + 1 := IntWalk.i64_in _ (by omega)
        clear hn
        go_upto_region 21 with fail
        rw [← hw7]
        clear hw7 p0 p1 f1 e1
        have y2 := H7.out.p_
        have y4 := H7.out.o_
        have q0 := cell_blk (i := 0) y2 rfl
        have q1 := cell_blk (i := 1) y2 rfl
        have l0 := cell_blk (i := 0) y4 rfl
        have l1 := cell_blk (i := 1) y4 rfl
        have m0 := free_blk (i := 0) y4
        have m1 := free_blk (i := 1) y4
        have hrs8 := set_blk (i := 0) y4 (.int .i64 p.node)
        have hrs9 := set_blk (i := 1) hrs8 (.int .i64 (p.at_ + 1))
        have u0 := cell_blk (i := 0) (v := .int .i64 p.node) hrs9 rfl
        have u1 := cell_blk (i := 1) (v := .int .i64 (p.at_ + 1)) hrs9 rfl
        have HBF := Lib.hid ((H7.out.below.setCell (p := ⟨w.heap.size + 1 + 1 + 1, 0, none⟩) (by show w.heap.size ≤ w.heap.size + 1 + 1 + 1; omega) (.int .i64 p.node)).setCell (p := ⟨w.heap.size + 1 + 1 + 1, 1, none⟩) (by show w.heap.size ≤ w.heap.size + 1 + 1 + 1; omega) (.int .i64 (p.at_ + 1)))
        clear y2 y4 hrs8 hrs9
        go_wp2_with fail
        refine bodyPost_ret (v := .agg #[.int .i64 p.node, .int .i64 (p.at_ + 1)]) (by simp [results, Tryd.results62, go_sem, u0, u1]) rfl ⟨by rw [HR.out], HBF.out⟩

      · have HR := Lib.hid (show insTo x.kids p e = p.at_ from if_neg (fun h => hi (by have := h.2; rw [HI.out] at this; exact this)))
        clear hn p0 p1
        have y2 := H2.out.p_
        have y4 := H2.out.o_
        have q0 := cell_blk (i := 0) y2 rfl
        have q1 := cell_blk (i := 1) y2 rfl
        have l0 := cell_blk (i := 0) y4 rfl
        have l1 := cell_blk (i := 1) y4 rfl
        have m0 := free_blk (i := 0) y4
        have m1 := free_blk (i := 1) y4
        have hrs8 := set_blk (i := 0) y4 (.int .i64 p.node)
        have hrs9 := set_blk (i := 1) hrs8 (.int .i64 p.at_)
        have u0 := cell_blk (i := 0) (v := .int .i64 p.node) hrs9 rfl
        have u1 := cell_blk (i := 1) (v := .int .i64 p.at_) hrs9 rfl
        have HBF := Lib.hid ((H2.out.below.setCell (p := ⟨w.heap.size + 1 + 1 + 1, 0, none⟩) (by show w.heap.size ≤ w.heap.size + 1 + 1 + 1; omega) (.int .i64 p.node)).setCell (p := ⟨w.heap.size + 1 + 1 + 1, 1, none⟩) (by show w.heap.size ≤ w.heap.size + 1 + 1 + 1; omega) (.int .i64 p.at_))
        clear y2 y4 hrs8 hrs9
        go_wp2_with fail
        refine bodyPost_ret (v := .agg #[.int .i64 p.node, .int .i64 p.at_]) (by simp [results, Tryd.results62, go_sem, u0, u1]) rfl ⟨by rw [HR.out], HBF.out⟩

    · have HR := Lib.hid (show insTo x.kids p e = p.at_ from if_neg (fun h => hn (by have := h.1; rw [HM.out] at this; exact this)))
      have hn1 : (p.node == (m : Int)) = false := beq_eq_false_iff_ne.2 hn
      clear hn p0 p1
      have y2 := H2.out.p_
      have y4 := H2.out.o_
      have q0 := cell_blk (i := 0) y2 rfl
      have q1 := cell_blk (i := 1) y2 rfl
      have l0 := cell_blk (i := 0) y4 rfl
      have l1 := cell_blk (i := 1) y4 rfl
      have m0 := free_blk (i := 0) y4
      have m1 := free_blk (i := 1) y4
      have hrs8 := set_blk (i := 0) y4 (.int .i64 p.node)
      have hrs9 := set_blk (i := 1) hrs8 (.int .i64 p.at_)
      have u0 := cell_blk (i := 0) (v := .int .i64 p.node) hrs9 rfl
      have u1 := cell_blk (i := 1) (v := .int .i64 p.at_) hrs9 rfl
      have HBF := Lib.hid ((H2.out.below.setCell (p := ⟨w.heap.size + 1 + 1 + 1, 0, none⟩) (by show w.heap.size ≤ w.heap.size + 1 + 1 + 1; omega) (.int .i64 p.node)).setCell (p := ⟨w.heap.size + 1 + 1 + 1, 1, none⟩) (by show w.heap.size ≤ w.heap.size + 1 + 1 + 1; omega) (.int .i64 p.at_))
      clear y2 y4 hrs8 hrs9
      go_wp2_with fail
      refine bodyPost_ret (v := .agg #[.int .i64 p.node, .int .i64 p.at_]) (by simp [results, Tryd.results62, go_sem, u0, u1]) rfl ⟨by rw [HR.out], HBF.out⟩


  · have HI := Lib.hid (show insAt x.kids e.before = (x.kids.length : Int) from if_pos (by omega))
    clear hbf
    have e1 := cell_blk (i := 1) H1.out.e_ (v := .int .i64 m) (by rw [← HM.out]; rfl)
    have p0 := cell_blk (i := 0) H1.out.p_ rfl
    have p1 := cell_blk (i := 1) H1.out.p_ rfl
    have f1 := free_blk (i := 1) H1.out.p_
    by_cases hn : p.node = (m : Int)
    · have hn1 : (p.node == (m : Int)) = true := by simpa using hn
      by_cases hi : ((x.kids.length : Nat) : Int) < p.at_
      · have HR := Lib.hid (show insTo x.kids p e = p.at_ + 1 from if_pos ⟨by rw [HM.out]; exact hn, by rw [HI.out]; exact hi⟩)
        obtain ⟨w7, hw7⟩ : ∃ w7, w7 = w1.setCell ⟨w.heap.size + 1, 1, none⟩ (.int .i64 (p.at_ + 1)) := ⟨_, rfl⟩
        have H7 := Lib.hid (H1.out.setAt hw7)
        have wz : IntKind.i64.wrap (p.at_ + 1) = p.at_ + 1 := IntWalk.i64_in _ (by omega)
        clear hn
        go_upto_region 21 with fail
        rw [← hw7]
        clear hw7 p0 p1 f1 e1
        have y2 := H7.out.p_
        have y4 := H7.out.o_
        have q0 := cell_blk (i := 0) y2 rfl
        have q1 := cell_blk (i := 1) y2 rfl
        have l0 := cell_blk (i := 0) y4 rfl
        have l1 := cell_blk (i := 1) y4 rfl
        have m0 := free_blk (i := 0) y4
        have m1 := free_blk (i := 1) y4
        have hrs8 := set_blk (i := 0) y4 (.int .i64 p.node)
        have hrs9 := set_blk (i := 1) hrs8 (.int .i64 (p.at_ + 1))
        have u0 := cell_blk (i := 0) (v := .int .i64 p.node) hrs9 rfl
        have u1 := cell_blk (i := 1) (v := .int .i64 (p.at_ + 1)) hrs9 rfl
        have HBF := Lib.hid ((H7.out.below.setCell (p := ⟨w.heap.size + 1 + 1 + 1, 0, none⟩) (by show w.heap.size ≤ w.heap.size + 1 + 1 + 1; omega) (.int .i64 p.node)).setCell (p := ⟨w.heap.size + 1 + 1 + 1, 1, none⟩) (by show w.heap.size ≤ w.heap.size + 1 + 1 + 1; omega) (.int .i64 (p.at_ + 1)))
        clear y2 y4 hrs8 hrs9
        go_wp2_with fail
        refine bodyPost_ret (v := .agg #[.int .i64 p.node, .int .i64 (p.at_ + 1)]) (by simp [results, Tryd.results62, go_sem, u0, u1]) rfl ⟨by rw [HR.out], HBF.out⟩

      · have HR := Lib.hid (show insTo x.kids p e = p.at_ from if_neg (fun h => hi (by have := h.2; rw [HI.out] at this; exact this)))
        clear hn p0 p1
        have y2 := H1.out.p_
        have y4 := H1.out.o_
        have q0 := cell_blk (i := 0) y2 rfl
        have q1 := cell_blk (i := 1) y2 rfl
        have l0 := cell_blk (i := 0) y4 rfl
        have l1 := cell_blk (i := 1) y4 rfl
        have m0 := free_blk (i := 0) y4
        have m1 := free_blk (i := 1) y4
        have hrs8 := set_blk (i := 0) y4 (.int .i64 p.node)
        have hrs9 := set_blk (i := 1) hrs8 (.int .i64 p.at_)
        have u0 := cell_blk (i := 0) (v := .int .i64 p.node) hrs9 rfl
        have u1 := cell_blk (i := 1) (v := .int .i64 p.at_) hrs9 rfl
        have HBF := Lib.hid ((H1.out.below.setCell (p := ⟨w.heap.size + 1 + 1 + 1, 0, none⟩) (by show w.heap.size ≤ w.heap.size + 1 + 1 + 1; omega) (.int .i64 p.node)).setCell (p := ⟨w.heap.size + 1 + 1 + 1, 1, none⟩) (by show w.heap.size ≤ w.heap.size + 1 + 1 + 1; omega) (.int .i64 p.at_))
        clear y2 y4 hrs8 hrs9
        go_wp2_with fail
        refine bodyPost_ret (v := .agg #[.int .i64 p.node, .int .i64 p.at_]) (by simp [results, Tryd.results62, go_sem, u0, u1]) rfl ⟨by rw [HR.out], HBF.out⟩

    · have HR := Lib.hid (show insTo x.kids p e = p.at_ from if_neg (fun h => hn (by have := h.1; rw [HM.out] at this; exact this)))
      have hn1 : (p.node == (m : Int)) = false := beq_eq_false_iff_ne.2 hn
      clear hn p0 p1
      have y2 := H1.out.p_
      have y4 := H1.out.o_
      have q0 := cell_blk (i := 0) y2 rfl
      have q1 := cell_blk (i := 1) y2 rfl
      have l0 := cell_blk (i := 0) y4 rfl
      have l1 := cell_blk (i := 1) y4 rfl
      have m0 := free_blk (i := 0) y4
      have m1 := free_blk (i := 1) y4
      have hrs8 := set_blk (i := 0) y4 (.int .i64 p.node)
      have hrs9 := set_blk (i := 1) hrs8 (.int .i64 p.at_)
      have u0 := cell_blk (i := 0) (v := .int .i64 p.node) hrs9 rfl
      have u1 := cell_blk (i := 1) (v := .int .i64 p.at_) hrs9 rfl
      have HBF := Lib.hid ((H1.out.below.setCell (p := ⟨w.heap.size + 1 + 1 + 1, 0, none⟩) (by show w.heap.size ≤ w.heap.size + 1 + 1 + 1; omega) (.int .i64 p.node)).setCell (p := ⟨w.heap.size + 1 + 1 + 1, 1, none⟩) (by show w.heap.size ≤ w.heap.size + 1 + 1 + 1; omega) (.int .i64 p.at_))
      clear y2 y4 hrs8 hrs9
      go_wp2_with fail
      refine bodyPost_ret (v := .agg #[.int .i64 p.node, .int .i64 p.at_]) (by simp [results, Tryd.results62, go_sem, u0, u1]) rfl ⟨by rw [HR.out], HBF.out⟩


set_option maxRecDepth 100000 in
set_option maxHeartbeats 8000000 in
theorem moved_rem (A : Option Addr) (n c : Nat) (l : List Nd) (q : Bool) (p : Pt) (e : Edt) (Aa : Option Addr) (na ca : Nat) (Ak : Option Addr) (nk ck : Nat) (w : World) (B : Nat) (hl : Sl tNd w (lt B) A n c l) (hB : B ≤ w.heap.size) (G : Good l) (m pp i k : Nat) (x y : Nd) (h6 : e.do_ = 6) (hm : e.at_ = (m : Int)) (hr : RemOk l m pp i x y) (hk : p.node = (k : Int)) (hkl : k < l.length) (hp0 : 0 ≤ p.at_) (hp1 : p.at_ ≤ 1152921504606846976) :
    Calls Tryd.prog 62 #[.agg #[.slice A n c, .bool q], .agg #[.int .i64 p.node, .int .i64 p.at_], .agg (edtCells e Aa na ca Ak nk ck)] w fun e' w' => e' = .returned (.agg #[.int .i64 (remTo l p pp i m).1, .int .i64 (remTo l p pp i m).2]) ∧ Below w.heap.size w w' := by
  obtain ⟨wa, hwa⟩ : ∃ wa, wa = w.alloc (.cells #[.slice A n c, .bool q] 106) := ⟨_, rfl⟩
  obtain ⟨wb, hwb⟩ : ∃ wb, wb = wa.alloc (.cells #[.int .i64 p.node, .int .i64 p.at_] 57) := ⟨_, rfl⟩
  obtain ⟨wd, hwd⟩ : ∃ wd, wd = wb.alloc (.cells (edtCells e Aa na ca Ak nk ck) 53) := ⟨_, rfl⟩
  obtain ⟨w0, hw0⟩ : ∃ w0, w0 = wd.alloc (.cells #[.int .i64 0, .int .i64 0] 57) := ⟨_, rfl⟩
  have hmb := mb_of hwa hwb hwd hw0
  have HMB := Lib.hid hmb

  have hml := (List.getElem?_eq_some_iff.1 hr.hx).1
  have hpl := (List.getElem?_eq_some_iff.1 hr.hy).1
  have HN := Lib.hid hl.hn
  have hmn : m < n := by have := hl.hn; omega
  have hpn : pp < n := by have := hl.hn; omega
  obtain ⟨b, o, rfl, hd⟩ := doc_at hl (by omega)
  have HD := Lib.hid hd
  have HBB := Lib.hid hB
  have hcap := hl.hc
  have HM := Lib.hid hm
  have HK := Lib.hid hk
  have HRM := Lib.hid hr
  have HT := Lib.hid (tree_of (check_of G))
  have HL0 : Hid (BRel l k m k) := ⟨Or.inr ⟨k, rfl, hkl⟩, rfl⟩
  have x0 := cell_blk (i := 0) hmb.r_ rfl
  have x1 := cell_blk (i := 1) hmb.r_ rfl
  have e0 := cell_blk (i := 0) hmb.e_ (v := .int .i64 6) (by rw [← h6]; rfl)
  have e1 := cell_blk (i := 1) hmb.e_ (v := .int .i64 m) (by rw [← hm]; rfl)
  obtain ⟨_, _, _, _, _, _, _, _, _, _, _, m4, _⟩ := (hd.below hmb.below hB).at_ m x hr.hx
  rw [hr.par] at m4
  have i1 : (0 : Int) ≤ (m : Int) := by omega
  have i2 : (m : Int) < (n : Int) := by omega
  have i3 : (0 : Int) ≤ (pp : Int) := by omega
  have i4 : (pp : Int) < (n : Int) := by omega
  have hil : i ≤ 200 := by
    have h1 := (List.getElem?_eq_some_iff.1 hr.at_).1
    have h2 := G.kids_few hr.hy
    omega
  obtain ⟨_, _, _, A5, n5, c5, hnd, _, _, _, _, _, k5⟩ := (hd.below hmb.below hB).at_ pp y hr.hy
  have HIX := Lib.hid (fun k => quiet_l ((index_int A5 n5 c5 y.kids m (w0.drewN k) _ (sl_drewN hnd.kids k)).mono fun _ _ h => ⟨h.1, h.2.symm⟩))
  rw [hr.idx] at HIX
  clear hmb hl hB hd hm h6 hml hpl hnd hr G hkl hk
  go_enter Tryd.func62, Tryd.ntmps62
  go_upto_region 1 with fail
  rw [← hwa, ← hwb, ← hwd, ← hw0]
  clear hwa hwb hwd hw0
  go_upto_region 10 with fail
  go_quiet ((go_at_call 96; exact HIX.out _))
  generalize hw1 : w0.drewN _ = w1
  have H1 := Lib.hid (HMB.out.next (u' := w1) (by rw [← hw1]; exact below_dN (Below.refl _ _) _))
  clear hw1 x0 x1 e0 e1 m4 k5 HIX HMB
  have r0 := cell_blk (i := 0) H1.out.p_ rfl
  have r1 := cell_blk (i := 1) H1.out.p_ rfl
  have f1 := free_blk (i := 1) H1.out.p_
  by_cases hn : p.node = (pp : Int)
  · have hn1 : (p.node == (pp : Int)) = true := by simpa using hn
    by_cases hi : (i : Int) < p.at_
    · have HV := Lib.hid (show (if p.node = (pp : Int) ∧ (i : Int) < p.at_ then (p.node, p.at_ - 1) else (p.node, p.at_)) = (p.node, p.at_ - 1) from if_pos ⟨hn, hi⟩)
      obtain ⟨w7, hw7⟩ : ∃ w7, w7 = w1.setCell ⟨w.heap.size + 1, 1, none⟩ (.int .i64 (p.at_ - 1)) := ⟨_, rfl⟩
      have H7 := Lib.hid (H1.out.setAt hw7)
      have wz : IntKind.i64.wrap (p.at_ - 1) = p.at_ - 1 := IntWalk.i64_in _ (by omega)
      clear hn
      go_upto_region 13 with fail
      rw [← hw7]
      clear hw7 r0 r1 f1 hn1 hi wz H1
      have HS0 := H7.out.r_
      have s0 := cell_blk (i := 0) HS0 rfl
      have s1 := cell_blk (i := 1) HS0 rfl
      have p0 := cell_blk (i := 0) H7.out.p_ rfl
      have e1 := cell_blk (i := 1) H7.out.e_ (v := .int .i64 m) (by rw [← HM.out]; rfl)
      have HDL := Lib.hid (HD.out.below H7.out.below HBB.out)
      rw [HK.out] at p0
      clear HS0
      go_upto_region 14 with fail
      clear p0
      go_loop [10] (fun s => ∃ z : Int, s = .int .i64 z ∧ Hid (BRel l k m z)) (fun s => depZ l (intOf s))
      case atStart => exact ⟨k, rfl, HL0⟩
      case round =>
        obtain ⟨z, rfl, HR⟩ := hrel
        rcases HR.out.1 with hz | ⟨m', hz, hm'⟩
        · have h0 : ¬ 0 ≤ z := by omega
          have HQ := Lib.hid (show remTo l p pp i m = (p.node, (p.at_ - 1)) from (if_neg (by rw [HK.out, HR.out.2.trans (below_neg l (by omega))]; intro h; have := eq_of_beq h; omega)).trans HV.out)
          clear hz
          have y2 := H7.out.p_
          have y4 := H7.out.o_
          have q0 := cell_blk (i := 0) y2 rfl
          have q1 := cell_blk (i := 1) y2 rfl
          have l0 := cell_blk (i := 0) y4 rfl
          have l1 := cell_blk (i := 1) y4 rfl
          have m0 := free_blk (i := 0) y4
          have m1 := free_blk (i := 1) y4
          have hrs8 := set_blk (i := 0) y4 (.int .i64 p.node)
          have hrs9 := set_blk (i := 1) hrs8 (.int .i64 (p.at_ - 1))
          have u0 := cell_blk (i := 0) (v := .int .i64 p.node) hrs9 rfl
          have u1 := cell_blk (i := 1) (v := .int .i64 (p.at_ - 1)) hrs9 rfl
          have HBF := Lib.hid ((H7.out.below.setCell (p := ⟨w.heap.size + 1 + 1 + 1, 0, none⟩) (by show w.heap.size ≤ w.heap.size + 1 + 1 + 1; omega) (.int .i64 p.node)).setCell (p := ⟨w.heap.size + 1 + 1 + 1, 1, none⟩) (by show w.heap.size ≤ w.heap.size + 1 + 1 + 1; omega) (.int .i64 (p.at_ - 1)))
          clear y2 y4 hrs8 hrs9
          go_wp2_with fail
          refine bodyPost_ret (v := .agg #[.int .i64 p.node, .int .i64 (p.at_ - 1)]) (by simp [results, Tryd.results62, go_sem, u0, u1]) rfl ⟨by rw [HQ.out], HBF.out⟩

        · subst hz
          by_cases ht : m' = m
          · subst ht
            have HQ := Lib.hid (show remTo l p pp i m' = ((pp : Int), (i : Int)) from if_pos (by rw [HK.out]; exact HR.out.2.trans (below_self _)))
            have ht1 : ((m' : Int) == (m' : Int)) = true := by simp
            have y2 := H7.out.p_
            have y4 := H7.out.o_
            have q0 := cell_blk (i := 0) y2 rfl
            have q1 := cell_blk (i := 1) y2 rfl
            have l0 := cell_blk (i := 0) y4 rfl
            have l1 := cell_blk (i := 1) y4 rfl
            have m0 := free_blk (i := 0) y4
            have m1 := free_blk (i := 1) y4
            have hrs8 := set_blk (i := 0) y4 (.int .i64 (pp : Int))
            have hrs9 := set_blk (i := 1) hrs8 (.int .i64 (i : Int))
            have u0 := cell_blk (i := 0) (v := .int .i64 (pp : Int)) hrs9 rfl
            have u1 := cell_blk (i := 1) (v := .int .i64 (i : Int)) hrs9 rfl
            have HBF := Lib.hid ((H7.out.below.setCell (p := ⟨w.heap.size + 1 + 1 + 1, 0, none⟩) (by show w.heap.size ≤ w.heap.size + 1 + 1 + 1; omega) (.int .i64 (pp : Int))).setCell (p := ⟨w.heap.size + 1 + 1 + 1, 1, none⟩) (by show w.heap.size ≤ w.heap.size + 1 + 1 + 1; omega) (.int .i64 (i : Int)))
            clear y2 y4 hrs8 hrs9
            go_wp2_with fail
            refine bodyPost_ret (v := .agg #[.int .i64 (pp : Int), .int .i64 (i : Int)]) (by simp [results, Tryd.results62, go_sem, u0, u1]) rfl ⟨by rw [HQ.out], HBF.out⟩

          · obtain ⟨x', hx'⟩ := get_some hm'
            have ht1 : ((m' : Int) == (m : Int)) = false := by rw [beq_eq_false_iff_ne]; omega
            obtain ⟨_, _, _, _, _, _, _, _, _, _, _, k4, _⟩ := HDL.out.at_ m' x' hx'
            have HPD := Lib.hid (parD_at hx')
            have HU := Lib.hid (HR.out.2.trans (HT.out.below_up hm' (by omega)))
            have HDP := Lib.hid (HT.out.dep_par hm')
            have HPR := Lib.hid (HT.out.par hm')
            have i1 : (m' : Int) < (n : Int) := by have := HN.out; omega
            clear hx' ht hm' HR
            go_wp2_with fail
            go_round
            case rel => exact ⟨_, rfl, by
              rw [HPD.out] at HU HPR
              refine ⟨?_, HU.out⟩
              rcases HPR.out with e | ⟨p, e, hp, _⟩
              · exact Or.inl e
              · exact Or.inr ⟨p, e, hp⟩⟩
            case measure =>
              simp only [intOf]
              have h1 := HDP.out
              have h2 := HPD.out
              rw [h2] at h1
              omega

    · have HV := Lib.hid (show (if p.node = (pp : Int) ∧ (i : Int) < p.at_ then (p.node, p.at_ - 1) else (p.node, p.at_)) = (p.node, p.at_) from if_neg (fun h => hi h.2))
      clear hn
      go_upto_region 13 with fail
      clear r0 r1 f1 hn1 hi
      have HS0 := H1.out.r_
      have s0 := cell_blk (i := 0) HS0 rfl
      have s1 := cell_blk (i := 1) HS0 rfl
      have p0 := cell_blk (i := 0) H1.out.p_ rfl
      have e1 := cell_blk (i := 1) H1.out.e_ (v := .int .i64 m) (by rw [← HM.out]; rfl)
      have HDL := Lib.hid (HD.out.below H1.out.below HBB.out)
      rw [HK.out] at p0
      clear HS0
      go_upto_region 14 with fail
      clear p0
      go_loop [10] (fun s => ∃ z : Int, s = .int .i64 z ∧ Hid (BRel l k m z)) (fun s => depZ l (intOf s))
      case atStart => exact ⟨k, rfl, HL0⟩
      case round =>
        obtain ⟨z, rfl, HR⟩ := hrel
        rcases HR.out.1 with hz | ⟨m', hz, hm'⟩
        · have h0 : ¬ 0 ≤ z := by omega
          have HQ := Lib.hid (show remTo l p pp i m = (p.node, p.at_) from (if_neg (by rw [HK.out, HR.out.2.trans (below_neg l (by omega))]; intro h; have := eq_of_beq h; omega)).trans HV.out)
          clear hz
          have y2 := H1.out.p_
          have y4 := H1.out.o_
          have q0 := cell_blk (i := 0) y2 rfl
          have q1 := cell_blk (i := 1) y2 rfl
          have l0 := cell_blk (i := 0) y4 rfl
          have l1 := cell_blk (i := 1) y4 rfl
          have m0 := free_blk (i := 0) y4
          have m1 := free_blk (i := 1) y4
          have hrs8 := set_blk (i := 0) y4 (.int .i64 p.node)
          have hrs9 := set_blk (i := 1) hrs8 (.int .i64 p.at_)
          have u0 := cell_blk (i := 0) (v := .int .i64 p.node) hrs9 rfl
          have u1 := cell_blk (i := 1) (v := .int .i64 p.at_) hrs9 rfl
          have HBF := Lib.hid ((H1.out.below.setCell (p := ⟨w.heap.size + 1 + 1 + 1, 0, none⟩) (by show w.heap.size ≤ w.heap.size + 1 + 1 + 1; omega) (.int .i64 p.node)).setCell (p := ⟨w.heap.size + 1 + 1 + 1, 1, none⟩) (by show w.heap.size ≤ w.heap.size + 1 + 1 + 1; omega) (.int .i64 p.at_))
          clear y2 y4 hrs8 hrs9
          go_wp2_with fail
          refine bodyPost_ret (v := .agg #[.int .i64 p.node, .int .i64 p.at_]) (by simp [results, Tryd.results62, go_sem, u0, u1]) rfl ⟨by rw [HQ.out], HBF.out⟩

        · subst hz
          by_cases ht : m' = m
          · subst ht
            have HQ := Lib.hid (show remTo l p pp i m' = ((pp : Int), (i : Int)) from if_pos (by rw [HK.out]; exact HR.out.2.trans (below_self _)))
            have ht1 : ((m' : Int) == (m' : Int)) = true := by simp
            have y2 := H1.out.p_
            have y4 := H1.out.o_
            have q0 := cell_blk (i := 0) y2 rfl
            have q1 := cell_blk (i := 1) y2 rfl
            have l0 := cell_blk (i := 0) y4 rfl
            have l1 := cell_blk (i := 1) y4 rfl
            have m0 := free_blk (i := 0) y4
            have m1 := free_blk (i := 1) y4
            have hrs8 := set_blk (i := 0) y4 (.int .i64 (pp : Int))
            have hrs9 := set_blk (i := 1) hrs8 (.int .i64 (i : Int))
            have u0 := cell_blk (i := 0) (v := .int .i64 (pp : Int)) hrs9 rfl
            have u1 := cell_blk (i := 1) (v := .int .i64 (i : Int)) hrs9 rfl
            have HBF := Lib.hid ((H1.out.below.setCell (p := ⟨w.heap.size + 1 + 1 + 1, 0, none⟩) (by show w.heap.size ≤ w.heap.size + 1 + 1 + 1; omega) (.int .i64 (pp : Int))).setCell (p := ⟨w.heap.size + 1 + 1 + 1, 1, none⟩) (by show w.heap.size ≤ w.heap.size + 1 + 1 + 1; omega) (.int .i64 (i : Int)))
            clear y2 y4 hrs8 hrs9
            go_wp2_with fail
            refine bodyPost_ret (v := .agg #[.int .i64 (pp : Int), .int .i64 (i : Int)]) (by simp [results, Tryd.results62, go_sem, u0, u1]) rfl ⟨by rw [HQ.out], HBF.out⟩

          · obtain ⟨x', hx'⟩ := get_some hm'
            have ht1 : ((m' : Int) == (m : Int)) = false := by rw [beq_eq_false_iff_ne]; omega
            obtain ⟨_, _, _, _, _, _, _, _, _, _, _, k4, _⟩ := HDL.out.at_ m' x' hx'
            have HPD := Lib.hid (parD_at hx')
            have HU := Lib.hid (HR.out.2.trans (HT.out.below_up hm' (by omega)))
            have HDP := Lib.hid (HT.out.dep_par hm')
            have HPR := Lib.hid (HT.out.par hm')
            have i1 : (m' : Int) < (n : Int) := by have := HN.out; omega
            clear hx' ht hm' HR
            go_wp2_with fail
            go_round
            case rel => exact ⟨_, rfl, by
              rw [HPD.out] at HU HPR
              refine ⟨?_, HU.out⟩
              rcases HPR.out with e | ⟨p, e, hp, _⟩
              · exact Or.inl e
              · exact Or.inr ⟨p, e, hp⟩⟩
            case measure =>
              simp only [intOf]
              have h1 := HDP.out
              have h2 := HPD.out
              rw [h2] at h1
              omega

  · have HV := Lib.hid (show (if p.node = (pp : Int) ∧ (i : Int) < p.at_ then (p.node, p.at_ - 1) else (p.node, p.at_)) = (p.node, p.at_) from if_neg (fun h => hn h.1))
    have hn1 : (p.node == (pp : Int)) = false := beq_eq_false_iff_ne.2 hn
    clear hn
    go_upto_region 13 with fail
    clear r0 r1 f1 hn1
    have HS0 := H1.out.r_
    have s0 := cell_blk (i := 0) HS0 rfl
    have s1 := cell_blk (i := 1) HS0 rfl
    have p0 := cell_blk (i := 0) H1.out.p_ rfl
    have e1 := cell_blk (i := 1) H1.out.e_ (v := .int .i64 m) (by rw [← HM.out]; rfl)
    have HDL := Lib.hid (HD.out.below H1.out.below HBB.out)
    rw [HK.out] at p0
    clear HS0
    go_upto_region 14 with fail
    clear p0
    go_loop [10] (fun s => ∃ z : Int, s = .int .i64 z ∧ Hid (BRel l k m z)) (fun s => depZ l (intOf s))
    case atStart => exact ⟨k, rfl, HL0⟩
    case round =>
      obtain ⟨z, rfl, HR⟩ := hrel
      rcases HR.out.1 with hz | ⟨m', hz, hm'⟩
      · have h0 : ¬ 0 ≤ z := by omega
        have HQ := Lib.hid (show remTo l p pp i m = (p.node, p.at_) from (if_neg (by rw [HK.out, HR.out.2.trans (below_neg l (by omega))]; intro h; have := eq_of_beq h; omega)).trans HV.out)
        clear hz
        have y2 := H1.out.p_
        have y4 := H1.out.o_
        have q0 := cell_blk (i := 0) y2 rfl
        have q1 := cell_blk (i := 1) y2 rfl
        have l0 := cell_blk (i := 0) y4 rfl
        have l1 := cell_blk (i := 1) y4 rfl
        have m0 := free_blk (i := 0) y4
        have m1 := free_blk (i := 1) y4
        have hrs8 := set_blk (i := 0) y4 (.int .i64 p.node)
        have hrs9 := set_blk (i := 1) hrs8 (.int .i64 p.at_)
        have u0 := cell_blk (i := 0) (v := .int .i64 p.node) hrs9 rfl
        have u1 := cell_blk (i := 1) (v := .int .i64 p.at_) hrs9 rfl
        have HBF := Lib.hid ((H1.out.below.setCell (p := ⟨w.heap.size + 1 + 1 + 1, 0, none⟩) (by show w.heap.size ≤ w.heap.size + 1 + 1 + 1; omega) (.int .i64 p.node)).setCell (p := ⟨w.heap.size + 1 + 1 + 1, 1, none⟩) (by show w.heap.size ≤ w.heap.size + 1 + 1 + 1; omega) (.int .i64 p.at_))
        clear y2 y4 hrs8 hrs9
        go_wp2_with fail
        refine bodyPost_ret (v := .agg #[.int .i64 p.node, .int .i64 p.at_]) (by simp [results, Tryd.results62, go_sem, u0, u1]) rfl ⟨by rw [HQ.out], HBF.out⟩

      · subst hz
        by_cases ht : m' = m
        · subst ht
          have HQ := Lib.hid (show remTo l p pp i m' = ((pp : Int), (i : Int)) from if_pos (by rw [HK.out]; exact HR.out.2.trans (below_self _)))
          have ht1 : ((m' : Int) == (m' : Int)) = true := by simp
          have y2 := H1.out.p_
          have y4 := H1.out.o_
          have q0 := cell_blk (i := 0) y2 rfl
          have q1 := cell_blk (i := 1) y2 rfl
          have l0 := cell_blk (i := 0) y4 rfl
          have l1 := cell_blk (i := 1) y4 rfl
          have m0 := free_blk (i := 0) y4
          have m1 := free_blk (i := 1) y4
          have hrs8 := set_blk (i := 0) y4 (.int .i64 (pp : Int))
          have hrs9 := set_blk (i := 1) hrs8 (.int .i64 (i : Int))
          have u0 := cell_blk (i := 0) (v := .int .i64 (pp : Int)) hrs9 rfl
          have u1 := cell_blk (i := 1) (v := .int .i64 (i : Int)) hrs9 rfl
          have HBF := Lib.hid ((H1.out.below.setCell (p := ⟨w.heap.size + 1 + 1 + 1, 0, none⟩) (by show w.heap.size ≤ w.heap.size + 1 + 1 + 1; omega) (.int .i64 (pp : Int))).setCell (p := ⟨w.heap.size + 1 + 1 + 1, 1, none⟩) (by show w.heap.size ≤ w.heap.size + 1 + 1 + 1; omega) (.int .i64 (i : Int)))
          clear y2 y4 hrs8 hrs9
          go_wp2_with fail
          refine bodyPost_ret (v := .agg #[.int .i64 (pp : Int), .int .i64 (i : Int)]) (by simp [results, Tryd.results62, go_sem, u0, u1]) rfl ⟨by rw [HQ.out], HBF.out⟩

        · obtain ⟨x', hx'⟩ := get_some hm'
          have ht1 : ((m' : Int) == (m : Int)) = false := by rw [beq_eq_false_iff_ne]; omega
          obtain ⟨_, _, _, _, _, _, _, _, _, _, _, k4, _⟩ := HDL.out.at_ m' x' hx'
          have HPD := Lib.hid (parD_at hx')
          have HU := Lib.hid (HR.out.2.trans (HT.out.below_up hm' (by omega)))
          have HDP := Lib.hid (HT.out.dep_par hm')
          have HPR := Lib.hid (HT.out.par hm')
          have i1 : (m' : Int) < (n : Int) := by have := HN.out; omega
          clear hx' ht hm' HR
          go_wp2_with fail
          go_round
          case rel => exact ⟨_, rfl, by
            rw [HPD.out] at HU HPR
            refine ⟨?_, HU.out⟩
            rcases HPR.out with e | ⟨p, e, hp, _⟩
            · exact Or.inl e
            · exact Or.inr ⟨p, e, hp⟩⟩
          case measure =>
            simp only [intOf]
            have h1 := HDP.out
            have h2 := HPD.out
            rw [h2] at h1
            omega

end Go.Proofs.YtcnogokemilhnaaDoor
