/-
The walk of SpanStays.
-/
import Derived.Test.YtcnogokemilhnaaDoorSpanBegun
import Derived.Test.YtcnogokemilhnaaDoorSpanAfter2
namespace Go.Proofs.YtcnogokemilhnaaDoor
open Go.RowKit Go.Cl
attribute [local go_sem ↓] Go.wp_at_zero Go.wp_at_succ

def wfP (p : Pt) : Prop := (Lit.int .i64 p.node).wf = true ∧ (Lit.int .i64 p.at_).wf = true
/-- At the head of a round: the document and the range as they stand. -/
def SsR (w : World) (q : Bool) (wr : World) : Prop :=
  ∃ A n c l a b, Below w.heap.size w wr ∧ wr.heap[w.heap.size]? = some (.cells #[.slice A n c, .bool q] 24 (0, 0)) ∧ wr.heap[w.heap.size + 1]? = some (.cells #[.int .i64 a.node, .int .i64 a.at_, .int .i64 b.node, .int .i64 b.at_] 63 (0, 0)) ∧ Sl tNd wr (lt wr.heap.size) A n c l ∧ wfP a ∧ wfP b
/-- What Apply has told, in its variables. -/
def SX (wr : World) (q : Bool) (l : List Nd) (e : Edt) (v ev : Value) (wx : World) : Prop :=
  ∃ O, v = .pointer (some ⟨O, 0, none⟩) ∧ ev = .int .i64 (apErr l e) ∧ Below wr.heap.size wr wx ∧ wr.heap.size ≤ O ∧
    (apErr l e = 0 → ∃ A' c', wx.heap[O]? = some (.cells #[.slice A' (edDo l e).length c', .bool q] 24 (0, 0)) ∧ Sl tNd wx (rg wr.heap.size wx.heap.size) A' (edDo l e).length c' (edDo l e))
/-- What After has told, in its variables. -/
def SY (wx : World) (m : (Pt × Pt) × Int) (v fv : Value) (wy : World) : Prop :=
  ∃ O, v = .pointer (some ⟨O, 0, none⟩) ∧ fv = .int .i64 m.2 ∧ Below wx.heap.size wx wy ∧ wx.heap.size ≤ O ∧ wy.heap[O]? = some (.cells #[.int .i64 m.1.1.node, .int .i64 m.1.1.at_, .int .i64 m.1.2.node, .int .i64 m.1.2.at_] 63 (0, 0))
theorem sl_al_rg2 {α : Type} {T : Ty α} {w : World} {a b : Nat} {A : Option Addr} {n c : Nat} {xs : List α} (h : Sl T w (rg a b) A n c xs) (hb : b ≤ w.heap.size) (o : Obj) : Sl T (w.alloc o) (rg a b) A n c xs := h.keep fun p hp => World.cell?_alloc_lt w o p (Nat.lt_of_lt_of_le hp.2 hb)
theorem sl_far4 {α : Type} {T : Ty α} {w : World} {D : Nat → Prop} {O : Nat} {A : Option Addr} {n c : Nat} {xs : List α} (h : Sl T w D A n c xs) (hO : ¬ D O) (i : Nat) (v : Value) : Sl T (w.setCell ⟨O, i, none⟩ v) D A n c xs :=
  h.keep fun p hp => World.cell?_setCell_other w _ p v (fun e => hO (by rw [← e] at hp; exact hp))
theorem wfP_of {w : World} {D : Nat → Prop} {A : Option Addr} {n c : Nat} {l : List Nd} (hs : Sl tNd w D A n c l) {p : Pt} (h : ptE l p = 0) : wfP p := by
  obtain ⟨m, e, h1, h2, h3, _⟩ := pt_ok h
  have h4 := roomD_le hs m
  have h5 := hs.small
  have h6 := hs.hn
  exact ⟨WalkArith.wf_i64 (by omega), WalkArith.wf_i64 (by omega)⟩
theorem heap_dr {u : World} {g : Nat} {o : Option Obj} (h : u.heap[g]? = o) : u.drew.heap[g]? = o := h
theorem cell_set2 {u : World} {O i g : Nat} {v : Value} (h : u.cell? ⟨O, i, none⟩ = some v) (hne : O ≠ g) (x y : Value) : ((u.setCell ⟨g, 0, none⟩ x).setCell ⟨g, 1, none⟩ y).drew.cell? ⟨O, i, none⟩ = some v := by
  show ((u.setCell ⟨g, 0, none⟩ x).setCell ⟨g, 1, none⟩ y).cell? ⟨O, i, none⟩ = some v
  rw [World.cell?_setCell_other _ _ _ _ (fun e => hne (congrArg Addr.block e).symm), World.cell?_setCell_other _ _ _ _ (fun e => hne (congrArg Addr.block e).symm)]
  exact h
theorem ss_store {w wr wz : World} {q : Bool} {A0 : Option Addr} {n0 c0 : Nat} {q0 : Bool} (hbr : Below w.heap.size w wr) (hbz : Below wr.heap.size wr wz) (hd : w.heap.size + 1 < wr.heap.size) (hx : wz.heap[w.heap.size]? = some (.cells #[.slice A0 n0 c0, .bool q0] 24 (0, 0))) {p1 p2 p3 p4 : Value} (hy : wz.heap[w.heap.size + 1]? = some (.cells #[p1, p2, p3, p4] 63 (0, 0)))
    {A : Option Addr} {n c : Nat} {l : List Nd} {x : Nat} (hs : Sl tNd wz (rg wr.heap.size x) A n c l) (hxz : x ≤ wz.heap.size) {a b : Pt} (ha : wfP a) (hb : wfP b) :
    SsR w q ((((((wz.setCell ⟨w.heap.size, 0, none⟩ (.slice A n c)).setCell ⟨w.heap.size, 1, none⟩ (.bool q)).setCell ⟨w.heap.size + 1, 0, none⟩ (.int .i64 a.node)).setCell ⟨w.heap.size + 1, 1, none⟩ (.int .i64 a.at_)).setCell ⟨w.heap.size + 1, 2, none⟩ (.int .i64 b.node)).setCell ⟨w.heap.size + 1, 3, none⟩ (.int .i64 b.at_)).drew := by
  have n1 : w.heap.size + 1 ≠ w.heap.size := by omega
  have n2 : w.heap.size ≠ w.heap.size + 1 := by omega
  have hb0 : Below w.heap.size w wz := hbr.trans (hbz.mono hbr.size)
  have hres : ∀ (o j : Nat) (x : Value) (u : World), w.heap.size ≤ o → Below w.heap.size w u → Below w.heap.size w (u.setCell ⟨o, j, none⟩ x) := fun o j x u h hb => hb.setCell (p := ⟨o, j, none⟩) h x
  have h1 : w.heap.size ≤ w.heap.size := Nat.le_refl _
  have h2 : w.heap.size ≤ w.heap.size + 1 := by omega
  refine ⟨A, n, c, l, a, b, (hres _ _ _ _ h2 (hres _ _ _ _ h2 (hres _ _ _ _ h2 (hres _ _ _ _ h2 (hres _ _ _ _ h1 (hres _ _ _ _ h1 hb0)))))).drew, ?_, ?_, ?_, ha, hb⟩
  · refine heap_dr ?_
    refine (Below.heap_setCell _ _ _ _ n2).trans ((Below.heap_setCell _ _ _ _ n2).trans ((Below.heap_setCell _ _ _ _ n2).trans ((Below.heap_setCell _ _ _ _ n2).trans ?_)))
    exact set_blk (i := 1) (set_blk (i := 0) hx _) _
  · refine heap_dr ?_
    refine set_blk (i := 3) (set_blk (i := 2) (set_blk (i := 1) (set_blk (i := 0) (cs := #[p1, p2, p3, p4]) ?_ _) _) _) _
    exact (Below.heap_setCell _ _ _ _ n1).trans ((Below.heap_setCell _ _ _ _ n1).trans hy)
  · have hno1 : ¬ rg wr.heap.size x w.heap.size := fun h => by have := h.1; omega
    have hno2 : ¬ rg wr.heap.size x (w.heap.size + 1) := fun h => by have := h.1; omega
    have h3 := sl_far4 (sl_far4 (sl_far4 (sl_far4 (sl_far4 (sl_far4 hs hno1 0 (.slice A n c)) hno1 1 (.bool q)) hno2 0 (.int .i64 a.node)) hno2 1 (.int .i64 a.at_)) hno2 2 (.int .i64 b.node)) hno2 3 (.int .i64 b.at_)
    refine (Sl.drew ((Sl.ltr h3).up ?_))
    show x ≤ _
    simp only [World.size_setCell, World.size_drew]
    exact hxz
/-- What After tells of a range: if all is well the range is one of what Apply makes. -/
theorem after_law (l : List Nd) (e : Edt) (a b : Pt) : (afterS l e a b).2 ≠ 0 ∧ (afterS l e a b).1 = (⟨0, 0⟩, ⟨0, 0⟩) ∨ (afterS l e a b).2 = 0 ∧ apErr l e = 0 ∧ spanS (edDo l e) (afterS l e a b).1.1 (afterS l e a b).1.2 = 0 ∧ (a = b → (afterS l e a b).1.1 = (afterS l e a b).1.2) := by
  unfold afterS
  by_cases h1 : spanS l a b = 0
  · rw [if_neg (by simpa using h1)]
    by_cases h2 : apErr l e = 0
    · rw [if_neg (by simpa using h2)]
      have hed : edErr l e = 0 := by
        have hc := (spanS_zero.1 h1).1
        unfold apErr at h2
        rw [if_neg (by simpa using hc)] at h2
        exact h2
      exact Or.inr ⟨rfl, h2, span_stays_law h1 hed, fun h => by rw [h]⟩
    · rw [if_pos h2]
      exact Or.inl ⟨h2, rfl⟩
  · rw [if_pos h1]
    exact Or.inl ⟨h1, rfl⟩
set_option maxRecDepth 100000 in
set_option maxHeartbeats 8000000 in
theorem spanStays_walk (A : Option Addr) (n c : Nat) (l : List Nd) (q : Bool) (A2 : Option Addr) (m c2 : Nat) (es : List Edt) (a b : Pt) (w : World) (B : Nat) (hl : Sl tNd w (lt B) A n c l) (hes : Sl tEdt w (lt B) A2 m c2 es) (hB : B ≤ w.heap.size) (ha : wfP a) (hb : wfP b) :
    Calls Tryd.prog 6 #[.agg #[.slice A n c, .bool q], .slice A2 m c2, .agg #[.int .i64 a.node, .int .i64 a.at_, .int .i64 b.node, .int .i64 b.at_]] w fun e w' => e = .returned (.bool true) ∧ Below w.heap.size w w' := by
  obtain ⟨wa, hwa⟩ : ∃ wa, wa = w.alloc (.cells #[.slice A n c, .bool q] 24) := ⟨_, rfl⟩
  obtain ⟨w0, hw0⟩ : ∃ w0, w0 = wa.alloc (.cells #[.int .i64 a.node, .int .i64 a.at_, .int .i64 b.node, .int .i64 b.at_] 63) := ⟨_, rfl⟩
  have za : wa.heap.size = w.heap.size + 1 := by rw [hwa]; exact World.size_alloc w _
  have hbx : w0.heap[w.heap.size]? = some (.cells #[.slice A n c, .bool q] 24 (0, 0)) := by rw [hw0, Lib.alloc_old _ _ _ (by omega), hwa]; exact heap_alloc_new w _
  have hsx : w0.heap[w.heap.size + 1]? = some (.cells #[.int .i64 a.node, .int .i64 a.at_, .int .i64 b.node, .int .i64 b.at_] 63 (0, 0)) := by rw [hw0, ← za]; exact heap_alloc_new wa _
  have hb0 : Below w.heap.size w w0 := by rw [hw0, hwa]; exact ((Below.refl _ _).alloc (Nat.le_refl _) _).alloc (by simp) _
  have hz0 : w0.heap.size = w.heap.size + 2 := by rw [hw0, World.size_alloc, za]
  have b0 : w0.cell? ⟨w.heap.size, 0, none⟩ = some (.slice A n c) := cell_blk hbx rfl
  have b1 : w0.cell? ⟨w.heap.size, 1, none⟩ = some (.bool q) := cell_blk hbx rfl
  obtain ⟨k, hk, hkn, _, _⟩ := min_nat n 25 (by decide)
  have HBR := Lib.hid (brief_any A n c k l q w0.drew B (((hl.below hb0 hB)).drew) (Nat.le_trans hB hb0.size) hk)
  obtain ⟨k2, hk2, hk2n, hk230⟩ : ∃ k2 : Nat, min (m : Int) 20 = (k2 : Int) ∧ k2 ≤ m ∧ k2 ≤ 20 := ⟨min m 20, by omega, by omega, by omega⟩
  have hmc := hes.hc
  have hm63 := hes.small
  have hk2c : k2 ≤ c2 := by omega
  have HM0 : Hid (A2 = none → c2 = 0) := hes.nil_
  have HES2 := Lib.hid (hes.cut_to hk2n)
  have HB0 := Lib.hid hb0
  have HBX := Lib.hid hbx
  have HSX := Lib.hid hsx
  have HBW : Hid (B ≤ w.heap.size) := hB
  have HZ0 := Lib.hid hz0
  have HWA := Lib.hid ha
  have HWB := Lib.hid hb
  clear za hbx hsx hb0 hl hes hB hk ha hb hz0
  go_enter Tryd.func6, Tryd.ntmps6
  go_upto_region 1 with fail
  rw [← hwa, ← hw0]
  clear hwa hw0
  refine wp_region_G (S := fun w' : World => w'.cell? ⟨w.heap.size, 0, none⟩ = some (.slice A n c) ∧ w'.cell? ⟨w.heap.size, 1, none⟩ = some (.bool q)) (T := [7, 8]) (by kernel_rfl) ?_
  have hS : (fun w' : World => w'.cell? ⟨w.heap.size, 0, none⟩ = some (.slice A n c) ∧ w'.cell? ⟨w.heap.size, 1, none⟩ = some (.bool q)) w0.drew := ⟨b0, b1⟩
  refine wpAnyG_take (i := 0) (v := ?_) rfl (by kernel_rfl) (by kernel_rfl) (by kernel_rfl) (by kernel_rfl) (fun _ _ _ h => h) hS rfl ?_ ?_
  rotate_left
  · intro w' hSw
    (try dsimp only at hSw)
    first | (go_simp; done) | (go_simp; with_reducible rfl)
  refine wpAnyG_pure (i := 2) (v := ?_) rfl (by kernel_rfl) (by kernel_rfl) (by kernel_rfl) (fun _ _ _ h => h) rfl ?_ ?_
  rotate_left
  · intro w'
    first | (go_simp; done) | (go_simp; with_reducible rfl)
  refine wpAnyG_pure (i := 3) (v := ?_) rfl (by kernel_rfl) (by kernel_rfl) (by kernel_rfl) (fun _ _ _ h => h) rfl ?_ ?_
  rotate_left
  · intro w'
    first | (go_simp; done) | (go_simp; with_reducible rfl)
  refine wpAnyG_pure (i := 4) (v := ?_) rfl (by kernel_rfl) (by kernel_rfl) (by kernel_rfl) (fun _ _ _ h => h) rfl ?_ ?_
  rotate_left
  · intro w'
    first | (go_simp; done) | (go_simp; with_reducible rfl)
  refine wpAnyG_pure (i := 5) (v := ?_) rfl (by kernel_rfl) (by kernel_rfl) (by kernel_rfl) (fun _ _ _ h => h) rfl ?_ ?_
  rotate_left
  · intro w'
    first | (go_simp; done) | (go_simp; with_reducible rfl)
  refine wpAnyG_pure (i := 6) (v := ?_) rfl (by kernel_rfl) (by kernel_rfl) (by kernel_rfl) (fun _ _ _ h => h) rfl ?_ ?_
  rotate_left
  · intro w'
    first | (go_simp; done) | (go_simp; with_reducible rfl)
  refine wpAnyG_one (i := 1) (by kernel_rfl) rfl rfl (fun K hK => ?_)
  go_simp
  go_at_call 25
  refine HBR.out.mono ?_
  rintro e' w1 ⟨A', c', rfl, hb1, hsr⟩
  have hb01 : Below w0.heap.size w0 w1 := ((Below.refl _ w0).drew).trans hb1
  have hbx1 := (hb01.block _ (by have := HZ0.out; omega)).trans HBX.out
  have hsx1 := (hb01.block _ (by have := HZ0.out; omega)).trans HSX.out
  have y0 := cell_blk (i := 0) hbx1 rfl
  have y1 := cell_blk (i := 1) hbx1 rfl
  have z0 := free_blk (i := 0) hbx1
  have z1 := free_blk (i := 1) hbx1
  go_wp2_with fail
  refine hK.out _ _ (fun _ _ => ⟨y0, y1⟩) ?_
  clear hK K hS
  refine wpAnyG_one (i := 7) (by kernel_rfl) rfl rfl (fun K hK => ?_)
  go_simp
  refine hK.out _ _ (fun h => absurd (by decide) h) ?_
  clear hK K
  obtain ⟨w2, hw2⟩ : ∃ w2, w2 = (w1.setCell ⟨w.heap.size, 0, none⟩ (.slice A' k c')).setCell ⟨w.heap.size, 1, none⟩ (.bool q) := ⟨_, rfl⟩
  rw [← hw2]
  have H0 : Hid (SsR w q w2) := by
    have hno : ¬ (fun b => lt B b ∨ (w0.drew.heap.size ≤ b ∧ b < w1.heap.size)) w.heap.size := fun h => by
      rcases h with h | h
      · have h3 : w.heap.size < B := h
        have := HBW.out
        omega
      · have h1 := HZ0.out
        have h2 : w0.heap.size ≤ w.heap.size := h.1
        omega
    have ne1 : w.heap.size + 1 ≠ w.heap.size := by omega
    have hz2 : w2.heap.size = w1.heap.size := by rw [hw2]; simp only [World.size_setCell]
    have hb01s := hb01.size
    refine ⟨A', k, c', (l.take k).map cutNd, a, b, ?_, ?_, ?_, ?_, HWA.out, HWB.out⟩
    · rw [hw2]; exact ((HB0.out.trans (hb01.mono HB0.out.size)).setCell (p := ⟨w.heap.size, 0, none⟩) (Nat.le_refl _) _).setCell (p := ⟨w.heap.size, 1, none⟩) (Nat.le_refl _) _
    · rw [hw2]; exact set_blk (i := 1) (set_blk (i := 0) hbx1 _) _
    · rw [hw2]; exact (Below.heap_setCell _ _ _ _ ne1).trans ((Below.heap_setCell _ _ _ _ ne1).trans hsx1)
    · have h := sl_far4 (sl_far4 hsr hno 0 (.slice A' k c')) hno 1 (.bool q)
      rw [← hw2] at h
      refine h.more fun b hb => ?_
      show b < w2.heap.size
      rw [hz2]
      rcases hb with hb | hb
      · have h3 : b < B := hb
        have := HBW.out
        have := HZ0.out
        omega
      · exact hb.2
  clear hw2 hb01 hbx1 hsx1 y0 y1 z0 z1 hb1 hsr b0 b1 HBX HSX HB0 HBR HZ0 HWA HWB hk2 hk2n hm63 hmc HM0
  refine wpAnyG_one (i := 8) (by kernel_rfl) rfl rfl (fun K hK => ?_)
  go_simp
  refine hK.out _ _ (fun _ h => h) ?_
  clear hK K
  refine wpAnyG_done (by kernel_rfl) ?_ _
  generalize es.take k2 = es at *
  have HBG := Lib.hid (fun W => spanBegun_any W)
  have HN2 := Lib.hid HES2.out.hn
  go_upto_region 3 with fail
  go_loopw [7] (fun s wr => ∃ k : Nat, k ≤ k2 ∧ s = .int .i64 (k : Int) ∧ Hid (SsR w q wr)) (fun s _ => k2 - (intOf s).toNat)
  case atStart => exact ⟨0, Nat.zero_le _, rfl, H0⟩
  case round =>
    obtain ⟨k, hk, rfl, HR⟩ := hrel
    obtain ⟨A', n', c', l', pa, pb, hbr, hxr, hyr, hdr, hpa, hpb⟩ := HR.out
    by_cases hlt : k < k2
    · obtain ⟨e, he⟩ : ∃ e, es[k]? = some e := get_some (by have := HN2.out; omega)
      obtain ⟨b, o, Aa, na, ca, Ak, nk, ck, rfl, hbb, hok, hc⟩ := edt_get (HES2.out.below hbr HBW.out) he
      have f0 : wr.cell? ⟨b, o + k * 12, none⟩ = some (.int .i64 e.do_) := hc 0 _ rfl
      have f1 : wr.cell? ⟨b, o + k * 12 + 1, none⟩ = some (.int .i64 e.at_) := by rw [Nat.add_assoc]; exact hc 1 _ rfl
      have f2 : wr.cell? ⟨b, o + k * 12 + 2, none⟩ = some (.int .i64 e.to_) := by rw [Nat.add_assoc]; exact hc 2 _ rfl
      have f3 : wr.cell? ⟨b, o + k * 12 + 3, none⟩ = some (.int .i64 e.before) := by rw [Nat.add_assoc]; exact hc 3 _ rfl
      have f4 : wr.cell? ⟨b, o + k * 12 + 4, none⟩ = some (.string e.name) := by rw [Nat.add_assoc]; exact hc 4 _ rfl
      have f5 : wr.cell? ⟨b, o + k * 12 + 5, none⟩ = some (.string e.value) := by rw [Nat.add_assoc]; exact hc 5 _ rfl
      have f6 : wr.cell? ⟨b, o + k * 12 + 6, none⟩ = some (.int .i64 e.node.kind) := by rw [Nat.add_assoc]; exact hc 6 _ rfl
      have f7 : wr.cell? ⟨b, o + k * 12 + 7, none⟩ = some (.string e.node.name) := by rw [Nat.add_assoc]; exact hc 7 _ rfl
      have f8 : wr.cell? ⟨b, o + k * 12 + 8, none⟩ = some (.slice Aa na ca) := by rw [Nat.add_assoc]; exact hc 8 _ rfl
      have f9 : wr.cell? ⟨b, o + k * 12 + 9, none⟩ = some (.string e.node.text) := by rw [Nat.add_assoc]; exact hc 9 _ rfl
      have f10 : wr.cell? ⟨b, o + k * 12 + 10, none⟩ = some (.int .i64 e.node.parent) := by rw [Nat.add_assoc]; exact hc 10 _ rfl
      have f11 : wr.cell? ⟨b, o + k * 12 + 11, none⟩ = some (.slice Ak nk ck) := by rw [Nat.add_assoc]; exact hc 11 _ rfl
      have i1 : (0 : Int) ≤ (k : Int) := by omega
      have i2 : (k : Int) < (k2 : Int) := by omega
      have x0 := cell_blk (i := 0) hxr rfl
      have x1 := cell_blk (i := 1) hxr rfl
      have s0 := cell_blk (i := 0) hyr rfl
      have s1 := cell_blk (i := 1) hyr rfl
      have s2 := cell_blk (i := 2) hyr rfl
      have s3 := cell_blk (i := 3) hyr rfl
      have HBR := Lib.hid hbr
      have HXR := Lib.hid hxr
      have HYR := Lib.hid hyr
      have HDR := Lib.hid hdr
      have hBr : B ≤ wr.heap.size := Nat.le_trans HBW.out hbr.size
      have HDB2 : Hid (w.heap.size + 1 < wr.heap.size) := (Array.getElem?_eq_some_iff.1 hyr).1
      have HOK : Hid (∀ W, Below wr.heap.size wr W → EdtOk W (lt wr.heap.size) e Aa na ca Ak nk ck) := fun W hb => ⟨(hok.node.below hb hBr).up hBr, hok.at_, hok.to_, hok.before, hok.name, hok.value⟩
      have HAP : Hid (∀ W, Below wr.heap.size wr W → Calls Tryd.prog 28 #[.agg #[.slice A' n' c', .bool q], .agg (edtCells e Aa na ca Ak nk ck)] W fun e' w' => Below W.heap.size W w' ∧ ∃ A6 n6 c6 q6 m6, e' = .returned (.tuple #[.agg #[.slice A6 n6 c6, .bool q6], .int .i64 m6, .int .i64 (apErr l' e)]) ∧ (apErr l' e = 0 → n6 = (edDo l' e).length ∧ q6 = q ∧ Sl tNd w' (rg W.heap.size w'.heap.size) A6 n6 c6 (edDo l' e))) := fun W hb => by
        refine (apply_any A' n' c' l' q e Aa na ca Ak nk ck W wr.heap.size (hdr.below hb (Nat.le_refl _)) hb.size (HOK.out W hb)).mono fun e' w' ⟨h1, h2⟩ => ⟨h1, ?_⟩
        rcases h2 with ⟨h2, h3⟩ | ⟨h2, A6, c6, h3, h4⟩
        · exact ⟨_, _, _, _, _, h3, fun h => absurd h h2⟩
        · rw [h2]
          exact ⟨_, _, _, _, _, h3, fun _ => ⟨rfl, rfl, h4⟩⟩
      have HAF0 := Lib.hid (fun W (hb : Below wr.heap.size wr W) => after_any A' n' c' l' q e Aa na ca Ak nk ck pa pb W wr.heap.size (hdr.below hb (Nat.le_refl _)) hb.size (HOK.out W hb) hpa.1 hpa.2 hpb.1 hpb.2)
      have law := after_law l' e pa pb
      have HLAW := Lib.hid law
      have HS5 : Hid (∀ W, Below wr.heap.size wr W → (fun w' : World => w'.cell? ⟨w.heap.size, 0, none⟩ = some (.slice A' n' c') ∧ w'.cell? ⟨w.heap.size, 1, none⟩ = some (.bool q) ∧ w'.cell? ⟨b, o + k * 12, none⟩ = some (.int .i64 e.do_) ∧ w'.cell? ⟨b, o + k * 12 + 1, none⟩ = some (.int .i64 e.at_) ∧ w'.cell? ⟨b, o + k * 12 + 2, none⟩ = some (.int .i64 e.to_) ∧ w'.cell? ⟨b, o + k * 12 + 3, none⟩ = some (.int .i64 e.before) ∧ w'.cell? ⟨b, o + k * 12 + 4, none⟩ = some (.string e.name) ∧ w'.cell? ⟨b, o + k * 12 + 5, none⟩ = some (.string e.value) ∧ w'.cell? ⟨b, o + k * 12 + 6, none⟩ = some (.int .i64 e.node.kind) ∧ w'.cell? ⟨b, o + k * 12 + 7, none⟩ = some (.string e.node.name) ∧ w'.cell? ⟨b, o + k * 12 + 8, none⟩ = some (.slice Aa na ca) ∧ w'.cell? ⟨b, o + k * 12 + 9, none⟩ = some (.string e.node.text) ∧ w'.cell? ⟨b, o + k * 12 + 10, none⟩ = some (.int .i64 e.node.parent) ∧ w'.cell? ⟨b, o + k * 12 + 11, none⟩ = some (.slice Ak nk ck)) W) := fun W h => ⟨cell_be x0 h, cell_be x1 h, cell_be f0 h, cell_be f1 h, cell_be f2 h, cell_be f3 h, cell_be f4 h, cell_be f5 h, cell_be f6 h, cell_be f7 h, cell_be f8 h, cell_be f9 h, cell_be f10 h, cell_be f11 h⟩
      have HS60 : Hid (∀ W, Below wr.heap.size wr W → (fun w' : World => w'.cell? ⟨w.heap.size, 0, none⟩ = some (.slice A' n' c') ∧ w'.cell? ⟨w.heap.size, 1, none⟩ = some (.bool q) ∧ w'.cell? ⟨b, o + k * 12, none⟩ = some (.int .i64 e.do_) ∧ w'.cell? ⟨b, o + k * 12 + 1, none⟩ = some (.int .i64 e.at_) ∧ w'.cell? ⟨b, o + k * 12 + 2, none⟩ = some (.int .i64 e.to_) ∧ w'.cell? ⟨b, o + k * 12 + 3, none⟩ = some (.int .i64 e.before) ∧ w'.cell? ⟨b, o + k * 12 + 4, none⟩ = some (.string e.name) ∧ w'.cell? ⟨b, o + k * 12 + 5, none⟩ = some (.string e.value) ∧ w'.cell? ⟨b, o + k * 12 + 6, none⟩ = some (.int .i64 e.node.kind) ∧ w'.cell? ⟨b, o + k * 12 + 7, none⟩ = some (.string e.node.name) ∧ w'.cell? ⟨b, o + k * 12 + 8, none⟩ = some (.slice Aa na ca) ∧ w'.cell? ⟨b, o + k * 12 + 9, none⟩ = some (.string e.node.text) ∧ w'.cell? ⟨b, o + k * 12 + 10, none⟩ = some (.int .i64 e.node.parent) ∧ w'.cell? ⟨b, o + k * 12 + 11, none⟩ = some (.slice Ak nk ck) ∧ w'.cell? ⟨w.heap.size + 1, 0, none⟩ = some (.int .i64 pa.node) ∧ w'.cell? ⟨w.heap.size + 1, 1, none⟩ = some (.int .i64 pa.at_) ∧ w'.cell? ⟨w.heap.size + 1, 2, none⟩ = some (.int .i64 pb.node) ∧ w'.cell? ⟨w.heap.size + 1, 3, none⟩ = some (.int .i64 pb.at_)) W) := fun W h => ⟨cell_be x0 h, cell_be x1 h, cell_be f0 h, cell_be f1 h, cell_be f2 h, cell_be f3 h, cell_be f4 h, cell_be f5 h, cell_be f6 h, cell_be f7 h, cell_be f8 h, cell_be f9 h, cell_be f10 h, cell_be f11 h, cell_be s0 h, cell_be s1 h, cell_be s2 h, cell_be s3 h⟩
      have HPA := Lib.hid hpa
      have HPB := Lib.hid hpb
      unfold edtCells at HAP HAF0
      clear hbr hxr hyr hdr hok hc HR he hBr hbb hpa hpb law
      go_upto_region 5 with fail
      clear f0 f1 f2 f3 f4 f5 f6 f7 f8 f9 f10 f11 x0 x1 s0 s1 s2 s3
      go_cut [8, 10] (fun v ev wx => SX wr q l' e v ev wx)
      case first =>
        refine wp_region_G (S := (fun w' : World => w'.cell? ⟨w.heap.size, 0, none⟩ = some (.slice A' n' c') ∧ w'.cell? ⟨w.heap.size, 1, none⟩ = some (.bool q) ∧ w'.cell? ⟨b, o + k * 12, none⟩ = some (.int .i64 e.do_) ∧ w'.cell? ⟨b, o + k * 12 + 1, none⟩ = some (.int .i64 e.at_) ∧ w'.cell? ⟨b, o + k * 12 + 2, none⟩ = some (.int .i64 e.to_) ∧ w'.cell? ⟨b, o + k * 12 + 3, none⟩ = some (.int .i64 e.before) ∧ w'.cell? ⟨b, o + k * 12 + 4, none⟩ = some (.string e.name) ∧ w'.cell? ⟨b, o + k * 12 + 5, none⟩ = some (.string e.value) ∧ w'.cell? ⟨b, o + k * 12 + 6, none⟩ = some (.int .i64 e.node.kind) ∧ w'.cell? ⟨b, o + k * 12 + 7, none⟩ = some (.string e.node.name) ∧ w'.cell? ⟨b, o + k * 12 + 8, none⟩ = some (.slice Aa na ca) ∧ w'.cell? ⟨b, o + k * 12 + 9, none⟩ = some (.string e.node.text) ∧ w'.cell? ⟨b, o + k * 12 + 10, none⟩ = some (.int .i64 e.node.parent) ∧ w'.cell? ⟨b, o + k * 12 + 11, none⟩ = some (.slice Ak nk ck))) (T := [11, 12, 13]) (by kernel_rfl) ?_
        have hS : (fun w' : World => w'.cell? ⟨w.heap.size, 0, none⟩ = some (.slice A' n' c') ∧ w'.cell? ⟨w.heap.size, 1, none⟩ = some (.bool q) ∧ w'.cell? ⟨b, o + k * 12, none⟩ = some (.int .i64 e.do_) ∧ w'.cell? ⟨b, o + k * 12 + 1, none⟩ = some (.int .i64 e.at_) ∧ w'.cell? ⟨b, o + k * 12 + 2, none⟩ = some (.int .i64 e.to_) ∧ w'.cell? ⟨b, o + k * 12 + 3, none⟩ = some (.int .i64 e.before) ∧ w'.cell? ⟨b, o + k * 12 + 4, none⟩ = some (.string e.name) ∧ w'.cell? ⟨b, o + k * 12 + 5, none⟩ = some (.string e.value) ∧ w'.cell? ⟨b, o + k * 12 + 6, none⟩ = some (.int .i64 e.node.kind) ∧ w'.cell? ⟨b, o + k * 12 + 7, none⟩ = some (.string e.node.name) ∧ w'.cell? ⟨b, o + k * 12 + 8, none⟩ = some (.slice Aa na ca) ∧ w'.cell? ⟨b, o + k * 12 + 9, none⟩ = some (.string e.node.text) ∧ w'.cell? ⟨b, o + k * 12 + 10, none⟩ = some (.int .i64 e.node.parent) ∧ w'.cell? ⟨b, o + k * 12 + 11, none⟩ = some (.slice Ak nk ck)) wr.drew := HS5.out _ (Below.refl _ wr).drew
        refine wpAnyG_take (i := 0) (v := ?_) rfl (by kernel_rfl) (by kernel_rfl) (by kernel_rfl) (by kernel_rfl) (fun _ _ _ h => h) hS rfl ?_ ?_
        rotate_left
        · intro w' hSw
          (try dsimp only at hSw)
          first | (go_simp; done) | (go_simp; with_reducible rfl)
        refine wpAnyG_pure (i := 1) (v := ?_) rfl (by kernel_rfl) (by kernel_rfl) (by kernel_rfl) (fun _ _ _ h => h) rfl ?_ ?_
        rotate_left
        · intro w'
          first | (go_simp; done) | (go_simp; with_reducible rfl)
        refine wpAnyG_pure (i := 2) (v := ?_) rfl (by kernel_rfl) (by kernel_rfl) (by kernel_rfl) (fun _ _ _ h => h) rfl ?_ ?_
        rotate_left
        · intro w'
          first | (go_simp; done) | (go_simp; with_reducible rfl)
        refine wpAnyG_pure (i := 3) (v := ?_) rfl (by kernel_rfl) (by kernel_rfl) (by kernel_rfl) (fun _ _ _ h => h) rfl ?_ ?_
        rotate_left
        · intro w'
          first | (go_simp; done) | (go_simp; with_reducible rfl)
        refine wpAnyG_take (i := 4) (v := ?_) rfl (by kernel_rfl) (by kernel_rfl) (by kernel_rfl) (by kernel_rfl) (fun _ _ _ h => h) hS rfl ?_ ?_
        rotate_left
        · intro w' hSw
          (try dsimp only at hSw)
          first | (go_simp; done) | (go_simp; with_reducible rfl)
        refine wpAnyG_two (i := 5) (j := 10) (by kernel_rfl) rfl rfl rfl rfl (fun K hK => ?_) (fun K hK => ?_)
        · go_simp
          go_at_call 28
          refine (HAP.out wr.drew (Below.refl _ wr).drew).mono ?_
          rintro e' w6 ⟨hb6, A6, n6, c6, q6, m6, rfl, hp6⟩
          have hbr6 : Below wr.heap.size wr w6 := (Below.refl _ wr).drew.trans hb6
          have HX : Hid (SX wr q l' e (.pointer (some ⟨w6.heap.size, 0, none⟩)) (.int .i64 (apErr l' e)) (w6.alloc (.cells #[.slice A6 n6 c6, .bool q6] 24))) := ⟨w6.heap.size, rfl, rfl, hbr6.alloc hbr6.size _, hbr6.size, fun h0 => by
              obtain ⟨e1, e2, h3⟩ := hp6 h0
              subst e1 e2
              exact ⟨A6, c6, heap_alloc_new w6 _, Sl.rgd (sl_al_rg2 h3 (Nat.le_refl _) _) (Nat.le_refl _) (by simp)⟩⟩
          have H6 := Lib.hid (fun W (h : Below w6.heap.size w6 W) => HS5.out _ (hbr6.trans (h.mono hbr6.size)))
          clear hp6 hbr6 hb6 HAP
          go_wp2_with fail
          refine hK.out _ _ (fun _ _ => H6.out _ (Below.refl _ _)) ?_
          clear hK K hS
          refine wpAnyG_pure (i := 6) (v := ?_) rfl (by kernel_rfl) (by kernel_rfl) (by kernel_rfl) (fun _ _ _ h => h) rfl ?_ ?_
          rotate_left
          · intro w'
            first | (go_simp; done) | (go_simp; with_reducible rfl)
          refine wpAnyG_pure (i := 7) (v := ?_) rfl (by kernel_rfl) (by kernel_rfl) (by kernel_rfl) (fun _ _ _ h => h) rfl ?_ ?_
          rotate_left
          · intro w'
            first | (go_simp; done) | (go_simp; with_reducible rfl)
          refine wpAnyG_pure (i := 8) (v := ?_) rfl (by kernel_rfl) (by kernel_rfl) (by kernel_rfl) (fun _ _ _ h => h) rfl ?_ ?_
          rotate_left
          · intro w'
            first | (go_simp; done) | (go_simp; with_reducible rfl)
          refine wpAnyG_pure (i := 9) (v := ?_) rfl (by kernel_rfl) (by kernel_rfl) (by kernel_rfl) (fun _ _ _ h => h) rfl ?_ ?_
          rotate_left
          · intro w'
            first | (go_simp; done) | (go_simp; with_reducible rfl)
          refine wpAnyG_one (i := 10) (by kernel_rfl) rfl rfl (fun K hK => ?_)
          go_simp
          refine hK.out _ _ (fun _ _ => H6.out _ ((Below.refl _ _).alloc (Nat.le_refl _) _)) ?_
          clear hK K
          refine wpAnyG_one (i := 11) (by kernel_rfl) rfl rfl (fun K hK => ?_)
          go_simp
          refine hK.out _ _ (fun h => absurd (by decide) h) ?_
          clear hK K
          refine wpAnyG_one (i := 12) (by kernel_rfl) rfl rfl (fun K hK => ?_)
          go_simp
          refine hK.out _ _ (fun _ h => h) ?_
          clear hK K
          refine wpAnyG_one (i := 13) (by kernel_rfl) rfl rfl (fun K hK => ?_)
          go_simp
          refine hK.out _ _ (fun _ h => h) ?_
          clear hK K
          refine wpAnyG_done (by kernel_rfl) ?_ _
          go_wp2_with fail
          go_meet
          case rel => exact HX.out
        · go_simp
          refine hK.out _ _ (fun _ _ => HS5.out _ ((Below.refl _ wr).drew.alloc (Nat.le_refl _) _)) ?_
          clear hK K hS
          refine wpAnyG_one (i := 5) (by kernel_rfl) rfl rfl (fun K hK => ?_)
          go_simp
          go_at_call 28
          refine (HAP.out (wr.drew.alloc (.cells #[.slice none 0 0, .bool false] 24)) ((Below.refl _ wr).drew.alloc (Nat.le_refl _) _)).mono ?_
          rintro e' w6 ⟨hb6, A6, n6, c6, q6, m6, rfl, hp6⟩
          have hbr6 : Below wr.heap.size wr w6 := ((Below.refl _ wr).drew.alloc (Nat.le_refl _) _).trans (hb6.mono (by simp))
          have hO : w6.heap[wr.heap.size]? = some (.cells #[.slice none 0 0, .bool false] 24 (0, 0)) := (hb6.block _ (by simp)).trans (heap_alloc_new wr.drew _)
          have g1 := cell_blk (i := 0) hO rfl
          have g2 := cell_blk (i := 1) hO rfl
          have g3 := free_blk (i := 0) hO
          have g4 := free_blk (i := 1) hO
          have HX : Hid (SX wr q l' e (.pointer (some ⟨wr.heap.size, 0, none⟩)) (.int .i64 (apErr l' e)) ((w6.setCell ⟨wr.heap.size, 0, none⟩ (.slice A6 n6 c6)).setCell ⟨wr.heap.size, 1, none⟩ (.bool q6))) := ⟨wr.heap.size, rfl, rfl, (hbr6.setCell (p := ⟨wr.heap.size, 0, none⟩) (Nat.le_refl _) _).setCell (p := ⟨wr.heap.size, 1, none⟩) (Nat.le_refl _) _, Nat.le_refl _, fun h0 => by
              obtain ⟨e1, e2, h3⟩ := hp6 h0
              subst e1 e2
              exact ⟨A6, c6, set_blk (set_blk hO _) _, Sl.rgd (sl_far (sl_far h3 (by simp) 0 _) (by simp) 1 _) (by simp) (by simp)⟩⟩
          have H6 := Lib.hid (fun W (h : Below w6.heap.size w6 W) => HS5.out _ (hbr6.trans (h.mono hbr6.size)))
          clear hp6 hbr6 hb6 HAP hO
          go_wp2_with fail
          refine hK.out _ _ (fun _ _ => H6.out _ (Below.refl _ _)) ?_
          clear hK K
          refine wpAnyG_pure (i := 6) (v := ?_) rfl (by kernel_rfl) (by kernel_rfl) (by kernel_rfl) (fun _ _ _ h => h) rfl ?_ ?_
          rotate_left
          · intro w'
            first | (go_simp; done) | (go_simp; with_reducible rfl)
          refine wpAnyG_pure (i := 7) (v := ?_) rfl (by kernel_rfl) (by kernel_rfl) (by kernel_rfl) (fun _ _ _ h => h) rfl ?_ ?_
          rotate_left
          · intro w'
            first | (go_simp; done) | (go_simp; with_reducible rfl)
          refine wpAnyG_pure (i := 8) (v := ?_) rfl (by kernel_rfl) (by kernel_rfl) (by kernel_rfl) (fun _ _ _ h => h) rfl ?_ ?_
          rotate_left
          · intro w'
            first | (go_simp; done) | (go_simp; with_reducible rfl)
          refine wpAnyG_pure (i := 9) (v := ?_) rfl (by kernel_rfl) (by kernel_rfl) (by kernel_rfl) (fun _ _ _ h => h) rfl ?_ ?_
          rotate_left
          · intro w'
            first | (go_simp; done) | (go_simp; with_reducible rfl)
          refine wpAnyG_one (i := 11) (by kernel_rfl) rfl rfl (fun K hK => ?_)
          go_simp
          refine hK.out _ _ (fun h => absurd (by decide) h) ?_
          clear hK K
          refine wpAnyG_one (i := 12) (by kernel_rfl) rfl rfl (fun K hK => ?_)
          go_simp
          refine hK.out _ _ (fun _ h => h) ?_
          clear hK K
          refine wpAnyG_one (i := 13) (by kernel_rfl) rfl rfl (fun K hK => ?_)
          go_simp
          refine hK.out _ _ (fun _ h => h) ?_
          clear hK K
          refine wpAnyG_done (by kernel_rfl) ?_ _
          go_wp2_with fail
          go_meet
          case rel => exact HX.out
      case rest =>
        obtain ⟨O, rfl, rfl, hbw, hO, hx⟩ := hcut
        obtain ⟨wx, rfl⟩ : ∃ wx : World, wx = wc := ⟨_, rfl⟩
        have HBX := Lib.hid hbw
        have HX := Lib.hid hx
        have HAF := Lib.hid (fun W (h : Below wx.heap.size wx W) => HAF0.out W (HBX.out.trans (h.mono HBX.out.size)))
        have HS6 : Hid (∀ W, Below wx.heap.size wx W → (fun w' : World => w'.cell? ⟨w.heap.size, 0, none⟩ = some (.slice A' n' c') ∧ w'.cell? ⟨w.heap.size, 1, none⟩ = some (.bool q) ∧ w'.cell? ⟨b, o + k * 12, none⟩ = some (.int .i64 e.do_) ∧ w'.cell? ⟨b, o + k * 12 + 1, none⟩ = some (.int .i64 e.at_) ∧ w'.cell? ⟨b, o + k * 12 + 2, none⟩ = some (.int .i64 e.to_) ∧ w'.cell? ⟨b, o + k * 12 + 3, none⟩ = some (.int .i64 e.before) ∧ w'.cell? ⟨b, o + k * 12 + 4, none⟩ = some (.string e.name) ∧ w'.cell? ⟨b, o + k * 12 + 5, none⟩ = some (.string e.value) ∧ w'.cell? ⟨b, o + k * 12 + 6, none⟩ = some (.int .i64 e.node.kind) ∧ w'.cell? ⟨b, o + k * 12 + 7, none⟩ = some (.string e.node.name) ∧ w'.cell? ⟨b, o + k * 12 + 8, none⟩ = some (.slice Aa na ca) ∧ w'.cell? ⟨b, o + k * 12 + 9, none⟩ = some (.string e.node.text) ∧ w'.cell? ⟨b, o + k * 12 + 10, none⟩ = some (.int .i64 e.node.parent) ∧ w'.cell? ⟨b, o + k * 12 + 11, none⟩ = some (.slice Ak nk ck) ∧ w'.cell? ⟨w.heap.size + 1, 0, none⟩ = some (.int .i64 pa.node) ∧ w'.cell? ⟨w.heap.size + 1, 1, none⟩ = some (.int .i64 pa.at_) ∧ w'.cell? ⟨w.heap.size + 1, 2, none⟩ = some (.int .i64 pb.node) ∧ w'.cell? ⟨w.heap.size + 1, 3, none⟩ = some (.int .i64 pb.at_)) W) := fun W h => HS60.out W (HBX.out.trans (h.mono HBX.out.size))
        clear hbw hx HAP HS5 HAF0 HS60
        generalize afterS l' e pa pb = m at *
        go_upto_region 6 with fail
        go_cut [11, 12] (fun v fv wy => SY wx m v fv wy)
        case first =>
          refine wp_region_G (S := (fun w' : World => w'.cell? ⟨w.heap.size, 0, none⟩ = some (.slice A' n' c') ∧ w'.cell? ⟨w.heap.size, 1, none⟩ = some (.bool q) ∧ w'.cell? ⟨b, o + k * 12, none⟩ = some (.int .i64 e.do_) ∧ w'.cell? ⟨b, o + k * 12 + 1, none⟩ = some (.int .i64 e.at_) ∧ w'.cell? ⟨b, o + k * 12 + 2, none⟩ = some (.int .i64 e.to_) ∧ w'.cell? ⟨b, o + k * 12 + 3, none⟩ = some (.int .i64 e.before) ∧ w'.cell? ⟨b, o + k * 12 + 4, none⟩ = some (.string e.name) ∧ w'.cell? ⟨b, o + k * 12 + 5, none⟩ = some (.string e.value) ∧ w'.cell? ⟨b, o + k * 12 + 6, none⟩ = some (.int .i64 e.node.kind) ∧ w'.cell? ⟨b, o + k * 12 + 7, none⟩ = some (.string e.node.name) ∧ w'.cell? ⟨b, o + k * 12 + 8, none⟩ = some (.slice Aa na ca) ∧ w'.cell? ⟨b, o + k * 12 + 9, none⟩ = some (.string e.node.text) ∧ w'.cell? ⟨b, o + k * 12 + 10, none⟩ = some (.int .i64 e.node.parent) ∧ w'.cell? ⟨b, o + k * 12 + 11, none⟩ = some (.slice Ak nk ck) ∧ w'.cell? ⟨w.heap.size + 1, 0, none⟩ = some (.int .i64 pa.node) ∧ w'.cell? ⟨w.heap.size + 1, 1, none⟩ = some (.int .i64 pa.at_) ∧ w'.cell? ⟨w.heap.size + 1, 2, none⟩ = some (.int .i64 pb.node) ∧ w'.cell? ⟨w.heap.size + 1, 3, none⟩ = some (.int .i64 pb.at_))) (T := [11, 12]) (by kernel_rfl) ?_
          have hS : (fun w' : World => w'.cell? ⟨w.heap.size, 0, none⟩ = some (.slice A' n' c') ∧ w'.cell? ⟨w.heap.size, 1, none⟩ = some (.bool q) ∧ w'.cell? ⟨b, o + k * 12, none⟩ = some (.int .i64 e.do_) ∧ w'.cell? ⟨b, o + k * 12 + 1, none⟩ = some (.int .i64 e.at_) ∧ w'.cell? ⟨b, o + k * 12 + 2, none⟩ = some (.int .i64 e.to_) ∧ w'.cell? ⟨b, o + k * 12 + 3, none⟩ = some (.int .i64 e.before) ∧ w'.cell? ⟨b, o + k * 12 + 4, none⟩ = some (.string e.name) ∧ w'.cell? ⟨b, o + k * 12 + 5, none⟩ = some (.string e.value) ∧ w'.cell? ⟨b, o + k * 12 + 6, none⟩ = some (.int .i64 e.node.kind) ∧ w'.cell? ⟨b, o + k * 12 + 7, none⟩ = some (.string e.node.name) ∧ w'.cell? ⟨b, o + k * 12 + 8, none⟩ = some (.slice Aa na ca) ∧ w'.cell? ⟨b, o + k * 12 + 9, none⟩ = some (.string e.node.text) ∧ w'.cell? ⟨b, o + k * 12 + 10, none⟩ = some (.int .i64 e.node.parent) ∧ w'.cell? ⟨b, o + k * 12 + 11, none⟩ = some (.slice Ak nk ck) ∧ w'.cell? ⟨w.heap.size + 1, 0, none⟩ = some (.int .i64 pa.node) ∧ w'.cell? ⟨w.heap.size + 1, 1, none⟩ = some (.int .i64 pa.at_) ∧ w'.cell? ⟨w.heap.size + 1, 2, none⟩ = some (.int .i64 pb.node) ∧ w'.cell? ⟨w.heap.size + 1, 3, none⟩ = some (.int .i64 pb.at_)) wx.drew := HS6.out _ (Below.refl _ wx).drew
          refine wpAnyG_take (i := 0) (v := ?_) rfl (by kernel_rfl) (by kernel_rfl) (by kernel_rfl) (by kernel_rfl) (fun _ _ _ h => h) hS rfl ?_ ?_
          rotate_left
          · intro w' hSw
            (try dsimp only at hSw)
            first | (go_simp; done) | (go_simp; with_reducible rfl)
          refine wpAnyG_pure (i := 1) (v := ?_) rfl (by kernel_rfl) (by kernel_rfl) (by kernel_rfl) (fun _ _ _ h => h) rfl ?_ ?_
          rotate_left
          · intro w'
            first | (go_simp; done) | (go_simp; with_reducible rfl)
          refine wpAnyG_pure (i := 2) (v := ?_) rfl (by kernel_rfl) (by kernel_rfl) (by kernel_rfl) (fun _ _ _ h => h) rfl ?_ ?_
          rotate_left
          · intro w'
            first | (go_simp; done) | (go_simp; with_reducible rfl)
          refine wpAnyG_pure (i := 3) (v := ?_) rfl (by kernel_rfl) (by kernel_rfl) (by kernel_rfl) (fun _ _ _ h => h) rfl ?_ ?_
          rotate_left
          · intro w'
            first | (go_simp; done) | (go_simp; with_reducible rfl)
          refine wpAnyG_take (i := 4) (v := ?_) rfl (by kernel_rfl) (by kernel_rfl) (by kernel_rfl) (by kernel_rfl) (fun _ _ _ h => h) hS rfl ?_ ?_
          rotate_left
          · intro w' hSw
            (try dsimp only at hSw)
            first | (go_simp; done) | (go_simp; with_reducible rfl)
          refine wpAnyG_take (i := 5) (v := ?_) rfl (by kernel_rfl) (by kernel_rfl) (by kernel_rfl) (by kernel_rfl) (fun _ _ _ h => h) hS rfl ?_ ?_
          rotate_left
          · intro w' hSw
            (try dsimp only at hSw)
            first | (go_simp; done) | (go_simp; with_reducible rfl)
          refine wpAnyG_two (i := 6) (j := 10) (by kernel_rfl) rfl rfl rfl rfl (fun K hK => ?_) (fun K hK => ?_)
          · go_simp
            go_at_call 29
            refine (HAF.out wx.drew (Below.refl _ wx).drew).mono ?_
            rintro e' w6 ⟨rfl, hb6⟩
            have hbr6 : Below wx.heap.size wx w6 := (Below.refl _ wx).drew.trans hb6
            have HX : Hid (SY wx m (.pointer (some ⟨w6.heap.size, 0, none⟩)) (.int .i64 m.2) (w6.alloc (.cells #[.int .i64 m.1.1.node, .int .i64 m.1.1.at_, .int .i64 m.1.2.node, .int .i64 m.1.2.at_] 63))) := ⟨w6.heap.size, rfl, rfl, hbr6.alloc hbr6.size _, hbr6.size, heap_alloc_new w6 _⟩
            have H6 := Lib.hid (fun W (h : Below w6.heap.size w6 W) => HS6.out _ (hbr6.trans (h.mono hbr6.size)))
            clear hbr6 hb6 HAF
            go_wp2_with fail
            refine hK.out _ _ (fun _ _ => H6.out _ (Below.refl _ _)) ?_
            clear hK K hS
            refine wpAnyG_pure (i := 7) (v := ?_) rfl (by kernel_rfl) (by kernel_rfl) (by kernel_rfl) (fun _ _ _ h => h) rfl ?_ ?_
            rotate_left
            · intro w'
              first | (go_simp; done) | (go_simp; with_reducible rfl)
            refine wpAnyG_pure (i := 8) (v := ?_) rfl (by kernel_rfl) (by kernel_rfl) (by kernel_rfl) (fun _ _ _ h => h) rfl ?_ ?_
            rotate_left
            · intro w'
              first | (go_simp; done) | (go_simp; with_reducible rfl)
            refine wpAnyG_pure (i := 9) (v := ?_) rfl (by kernel_rfl) (by kernel_rfl) (by kernel_rfl) (fun _ _ _ h => h) rfl ?_ ?_
            rotate_left
            · intro w'
              first | (go_simp; done) | (go_simp; with_reducible rfl)
            refine wpAnyG_one (i := 10) (by kernel_rfl) rfl rfl (fun K hK => ?_)
            go_simp
            refine hK.out _ _ (fun _ _ => H6.out _ ((Below.refl _ _).alloc (Nat.le_refl _) _)) ?_
            clear hK K
            refine wpAnyG_one (i := 11) (by kernel_rfl) rfl rfl (fun K hK => ?_)
            go_simp
            refine hK.out _ _ (fun h => absurd (by decide) h) ?_
            clear hK K
            refine wpAnyG_one (i := 12) (by kernel_rfl) rfl rfl (fun K hK => ?_)
            go_simp
            refine hK.out _ _ (fun _ h => h) ?_
            clear hK K
            refine wpAnyG_done (by kernel_rfl) ?_ _
            go_wp2_with fail
            go_meet
            case rel => exact HX.out
          · go_simp
            refine hK.out _ _ (fun _ _ => HS6.out _ ((Below.refl _ wx).drew.alloc (Nat.le_refl _) _)) ?_
            clear hK K hS
            refine wpAnyG_one (i := 6) (by kernel_rfl) rfl rfl (fun K hK => ?_)
            go_simp
            go_at_call 29
            refine (HAF.out (wx.drew.alloc (.cells #[.int .i64 0, .int .i64 0, .int .i64 0, .int .i64 0] 63)) ((Below.refl _ wx).drew.alloc (Nat.le_refl _) _)).mono ?_
            rintro e' w6 ⟨rfl, hb6⟩
            have hbr6 : Below wx.heap.size wx w6 := ((Below.refl _ wx).drew.alloc (Nat.le_refl _) _).trans (hb6.mono (by simp))
            have hO : w6.heap[wx.heap.size]? = some (.cells #[.int .i64 0, .int .i64 0, .int .i64 0, .int .i64 0] 63 (0, 0)) := (hb6.block _ (by simp)).trans (heap_alloc_new wx.drew _)
            have g0 := cell_blk (i := 0) hO rfl
            have u0 := free_blk (i := 0) hO
            have g1 := cell_blk (i := 1) hO rfl
            have u1 := free_blk (i := 1) hO
            have g2 := cell_blk (i := 2) hO rfl
            have u2 := free_blk (i := 2) hO
            have g3 := cell_blk (i := 3) hO rfl
            have u3 := free_blk (i := 3) hO
            have HX : Hid (SY wx m (.pointer (some ⟨wx.heap.size, 0, none⟩)) (.int .i64 m.2) ((((w6.setCell ⟨wx.heap.size, 0, none⟩ (.int .i64 m.1.1.node)).setCell ⟨wx.heap.size, 1, none⟩ (.int .i64 m.1.1.at_)).setCell ⟨wx.heap.size, 2, none⟩ (.int .i64 m.1.2.node)).setCell ⟨wx.heap.size, 3, none⟩ (.int .i64 m.1.2.at_))) := ⟨wx.heap.size, rfl, rfl, ((((hbr6.setCell (p := ⟨wx.heap.size, 0, none⟩) (Nat.le_refl _) _).setCell (p := ⟨wx.heap.size, 1, none⟩) (Nat.le_refl _) _).setCell (p := ⟨wx.heap.size, 2, none⟩) (Nat.le_refl _) _).setCell (p := ⟨wx.heap.size, 3, none⟩) (Nat.le_refl _) _), Nat.le_refl _, (set_blk (set_blk (set_blk (set_blk hO _) _) _) _)⟩
            have H6 := Lib.hid (fun W (h : Below w6.heap.size w6 W) => HS6.out _ (hbr6.trans (h.mono hbr6.size)))
            clear hbr6 hb6 HAF hO
            go_wp2_with fail
            refine hK.out _ _ (fun _ _ => H6.out _ (Below.refl _ _)) ?_
            clear hK K
            refine wpAnyG_pure (i := 7) (v := ?_) rfl (by kernel_rfl) (by kernel_rfl) (by kernel_rfl) (fun _ _ _ h => h) rfl ?_ ?_
            rotate_left
            · intro w'
              first | (go_simp; done) | (go_simp; with_reducible rfl)
            refine wpAnyG_pure (i := 8) (v := ?_) rfl (by kernel_rfl) (by kernel_rfl) (by kernel_rfl) (fun _ _ _ h => h) rfl ?_ ?_
            rotate_left
            · intro w'
              first | (go_simp; done) | (go_simp; with_reducible rfl)
            refine wpAnyG_pure (i := 9) (v := ?_) rfl (by kernel_rfl) (by kernel_rfl) (by kernel_rfl) (fun _ _ _ h => h) rfl ?_ ?_
            rotate_left
            · intro w'
              first | (go_simp; done) | (go_simp; with_reducible rfl)
            refine wpAnyG_one (i := 11) (by kernel_rfl) rfl rfl (fun K hK => ?_)
            go_simp
            refine hK.out _ _ (fun h => absurd (by decide) h) ?_
            clear hK K
            refine wpAnyG_one (i := 12) (by kernel_rfl) rfl rfl (fun K hK => ?_)
            go_simp
            refine hK.out _ _ (fun _ h => h) ?_
            clear hK K
            refine wpAnyG_done (by kernel_rfl) ?_ _
            go_wp2_with fail
            go_meet
            case rel => exact HX.out
        case rest =>
          obtain ⟨O2, rfl, rfl, hby, hO2, hsb⟩ := hcut
          obtain ⟨wy, rfl⟩ : ∃ wy : World, wy = wc := ⟨_, rfl⟩
          have HBY := Lib.hid (HBX.out.trans (hby.mono HBX.out.size))
          have t0 := cell_blk (i := 0) hsb rfl
          have t1 := cell_blk (i := 1) hsb rfl
          have t2 := cell_blk (i := 2) hsb rfl
          have t3 := cell_blk (i := 3) hsb rfl
          have HSB := Lib.hid hsb
          have HBXY := Lib.hid hby
          have HOO : Hid (wr.heap.size ≤ O ∧ wx.heap.size ≤ O2) := ⟨hO, hO2⟩
          obtain ⟨⟨ma, mb⟩, er⟩ := m
          try simp only at t0 t1 t2 t3
          clear hby hsb hO hO2 HAF HS6
          rcases HLAW.out with ⟨h1, h2⟩ | ⟨h1, h2, h3, h4⟩
          · simp only at h1
            have j1 : (er != 0) = true := by simpa using h1
            obtain ⟨rfl, rfl⟩ := Prod.mk.inj h2
            have HRN : Hid (SsR w q wy) := ⟨A', n', c', l', pa, pb, HBR.out.trans (HBY.out.mono HBR.out.size), (HBY.out.block _ (by have := HDB2.out; omega)).trans HXR.out, (HBY.out.block _ HDB2.out).trans HYR.out, (HDR.out.below HBY.out (Nat.le_refl _)).up HBY.out.size, HPA.out, HPB.out⟩
            try simp only at t0 t1 t2 t3
            clear h1 h2
            go_wp2_with fail
            go_roundw
            case rel => exact ⟨k + 1, by omega, by go_num, HRN⟩
            case measure => simp [intOf]; omega
          · simp only at h1 h3 h4
            subst h1
            have HAPZ := Lib.hid h2
            obtain ⟨A6, c6, hob, hs6⟩ := HX.out h2
            have hoy := (HBXY.out.block _ (Array.getElem?_eq_some_iff.1 hob).1).trans hob
            have hsy : Sl tNd wy (rg wr.heap.size wx.heap.size) A6 (edDo l' e).length c6 (edDo l' e) := hs6.keep (fun p hp => HBXY.out.cell (p := p) hp.2)
            have HSY := Lib.hid hsy
            have HOY := Lib.hid hoy
            have o0 := cell_blk (i := 0) hoy rfl
            have o1 := cell_blk (i := 1) hoy rfl
            have hpz := spanS_zero.1 h3
            have hwa2 := wfP_of hsy hpz.2.1
            have hwb2 := wfP_of hsy hpz.2.2.1
            have HWM : Hid (wfP ma ∧ wfP mb) := ⟨hwa2, hwb2⟩
            have HCK := Lib.hid (spanCheck_any A6 (edDo l' e).length c6 (edDo l' e) q ma mb wy wy.heap.size ((Sl.ltr hsy).up HBXY.out.size) (Nat.le_refl _) hwa2.1 hwa2.2 hwb2.1 hwb2.2)
            rw [h3] at HCK
            have HEQ := Lib.hid h4
            rw [HAPZ.out]
            clear h2 h3 h4 hob hs6 hsy hoy hpz hwa2 hwb2 HX
            go_upto_region 10 with fail
            go_upto_region 12 with (go_at_call 30; refine HCK.out.mono ?_; rintro e' wz ⟨rfl, hbz⟩)
            have HBZ := Lib.hid (HBY.out.trans (hbz.mono HBY.out.size))
            have hyz := (HBZ.out.block _ HDB2.out).trans HYR.out
            have hxz := (HBZ.out.block _ (by have := HDB2.out; omega)).trans HXR.out
            have hoz := (hbz.block _ (Array.getElem?_eq_some_iff.1 HOY.out).1).trans HOY.out
            have hsz := (hbz.block _ (Array.getElem?_eq_some_iff.1 HSB.out).1).trans HSB.out
            have HSZ : Hid (Sl tNd wz (rg wr.heap.size wx.heap.size) A6 (edDo l' e).length c6 (edDo l' e)) := HSY.out.keep (fun p hp => hbz.cell (p := p) (Nat.lt_of_lt_of_le hp.2 HBXY.out.size))
            have HZS : Hid (wx.heap.size ≤ wz.heap.size) := Nat.le_trans HBXY.out.size hbz.size
            have HYZ := Lib.hid hyz
            have HXZ := Lib.hid hxz
            clear o0 o1 t0 t1 t2 t3 hbz HCK HSY
            have s0 := cell_blk (i := 0) hyz rfl
            have s1 := cell_blk (i := 1) hyz rfl
            have s2 := cell_blk (i := 2) hyz rfl
            have s3 := cell_blk (i := 3) hyz rfl
            have t0 := cell_blk (i := 0) hsz rfl
            have t1 := cell_blk (i := 1) hsz rfl
            have t2 := cell_blk (i := 2) hsz rfl
            have t3 := cell_blk (i := 3) hsz rfl
            have o0 := cell_blk (i := 0) hoz rfl
            have o1 := cell_blk (i := 1) hoz rfl
            have d0 := cell_blk (i := 0) hxz rfl
            have d1 := cell_blk (i := 1) hxz rfl
            have f0 := free_blk (i := 0) hxz
            have f1 := free_blk (i := 1) hxz
            have u0 := free_blk (i := 0) hyz
            have u1 := free_blk (i := 1) hyz
            have u2 := free_blk (i := 2) hyz
            have u3 := free_blk (i := 3) hyz
            clear hyz hxz hoz hsz
            try simp only at t0 t1 t2 t3
            by_cases hn : pa.node = pb.node
            · have hn1 : (pa.node == pb.node) = true := by simpa using hn
              by_cases ht : pa.at_ = pb.at_
              · have ht1 : (pa.at_ == pb.at_) = true := by simpa using ht
                have hab : pa = pb := by
                  cases pa; cases pb
                  simp only at hn ht
                  rw [hn, ht]
                have hm := HEQ.out hab
                subst hm
                have g1 : (ma.node == ma.node) = true := by simp
                have g2 : (ma.at_ == ma.at_) = true := by simp
                clear hn ht hab HEQ
                go_upto_region 14 with fail
                refine wp_region_G (S := (fun w' : World => w'.cell? ⟨O, 0, none⟩ = some (.slice A6 (edDo l' e).length c6) ∧ w'.cell? ⟨O, 1, none⟩ = some (.bool q) ∧ w'.cell? ⟨O2, 0, none⟩ = some (.int .i64 ma.node) ∧ w'.cell? ⟨O2, 1, none⟩ = some (.int .i64 ma.at_) ∧ w'.cell? ⟨O2, 2, none⟩ = some (.int .i64 ma.node) ∧ w'.cell? ⟨O2, 3, none⟩ = some (.int .i64 ma.at_))) (T := [3]) (by kernel_rfl) ?_
                have hS : (fun w' : World => w'.cell? ⟨O, 0, none⟩ = some (.slice A6 (edDo l' e).length c6) ∧ w'.cell? ⟨O, 1, none⟩ = some (.bool q) ∧ w'.cell? ⟨O2, 0, none⟩ = some (.int .i64 ma.node) ∧ w'.cell? ⟨O2, 1, none⟩ = some (.int .i64 ma.at_) ∧ w'.cell? ⟨O2, 2, none⟩ = some (.int .i64 ma.node) ∧ w'.cell? ⟨O2, 3, none⟩ = some (.int .i64 ma.at_)) wz.drew := ⟨o0, o1, t0, t1, t2, t3⟩
                refine wpAnyG_take (i := 0) (v := ?_) rfl (by kernel_rfl) (by kernel_rfl) (by kernel_rfl) (by kernel_rfl) (fun _ _ _ h => h) hS rfl ?_ ?_
                rotate_left
                · intro w' hSw
                  (try dsimp only at hSw)
                  first | (go_simp; done) | (go_simp; with_reducible rfl)
                refine wpAnyG_take (i := 1) (v := ?_) rfl (by kernel_rfl) (by kernel_rfl) (by kernel_rfl) (by kernel_rfl) (fun _ _ _ h => h) hS rfl ?_ ?_
                rotate_left
                · intro w' hSw
                  (try dsimp only at hSw)
                  first | (go_simp; done) | (go_simp; with_reducible rfl)
                have ne1 : O ≠ w.heap.size := by have := HOO.out.1; have := HDB2.out; omega
                have ne2 : O2 ≠ w.heap.size := by have := HOO.out.2; have := HBX.out.size; have := HDB2.out; omega
                refine wpAnyG_one (i := 2) (by kernel_rfl) rfl rfl (fun K hK => ?_)
                go_simp
                refine hK.out _ _ (fun _ _ => ⟨cell_set2 o0 ne1 _ _, cell_set2 o1 ne1 _ _, cell_set2 t0 ne2 _ _, cell_set2 t1 ne2 _ _, cell_set2 t2 ne2 _ _, cell_set2 t3 ne2 _ _⟩) ?_
                clear hK K
                refine wpAnyG_one (i := 3) (by kernel_rfl) rfl rfl (fun K hK => ?_)
                go_simp
                refine hK.out _ _ (fun h => absurd (by decide) h) ?_
                clear hK K ne1 ne2
                refine wpAnyG_done (by kernel_rfl) ?_ _
                have HRN : Hid (SsR w q ((((((wz.setCell ⟨w.heap.size, 0, none⟩ (.slice A6 (edDo l' e).length c6)).setCell ⟨w.heap.size, 1, none⟩ (.bool q)).setCell ⟨w.heap.size + 1, 0, none⟩ (.int .i64 ma.node)).setCell ⟨w.heap.size + 1, 1, none⟩ (.int .i64 ma.at_)).setCell ⟨w.heap.size + 1, 2, none⟩ (.int .i64 ma.node)).setCell ⟨w.heap.size + 1, 3, none⟩ (.int .i64 ma.at_)).drew) := ss_store HBR.out HBZ.out HDB2.out HXZ.out HYZ.out HSZ.out HZS.out HWM.out.1 HWM.out.2
                clear hS d0 d1 o0 o1 t0 t1 t2 t3 s0 s1 s2 s3 f0 f1 u0 u1 u2 u3
                go_wp2_with fail
                go_roundw
                case rel => exact ⟨k + 1, by omega, by go_num, HRN⟩
                case measure => simp [intOf]; omega
              · have ht1 : (pa.at_ == pb.at_) = false := beq_eq_false_iff_ne.2 ht
                clear hn ht HEQ
                go_upto_region 14 with fail
                refine wp_region_G (S := (fun w' : World => w'.cell? ⟨O, 0, none⟩ = some (.slice A6 (edDo l' e).length c6) ∧ w'.cell? ⟨O, 1, none⟩ = some (.bool q) ∧ w'.cell? ⟨O2, 0, none⟩ = some (.int .i64 ma.node) ∧ w'.cell? ⟨O2, 1, none⟩ = some (.int .i64 ma.at_) ∧ w'.cell? ⟨O2, 2, none⟩ = some (.int .i64 mb.node) ∧ w'.cell? ⟨O2, 3, none⟩ = some (.int .i64 mb.at_))) (T := [3]) (by kernel_rfl) ?_
                have hS : (fun w' : World => w'.cell? ⟨O, 0, none⟩ = some (.slice A6 (edDo l' e).length c6) ∧ w'.cell? ⟨O, 1, none⟩ = some (.bool q) ∧ w'.cell? ⟨O2, 0, none⟩ = some (.int .i64 ma.node) ∧ w'.cell? ⟨O2, 1, none⟩ = some (.int .i64 ma.at_) ∧ w'.cell? ⟨O2, 2, none⟩ = some (.int .i64 mb.node) ∧ w'.cell? ⟨O2, 3, none⟩ = some (.int .i64 mb.at_)) wz.drew := ⟨o0, o1, t0, t1, t2, t3⟩
                refine wpAnyG_take (i := 0) (v := ?_) rfl (by kernel_rfl) (by kernel_rfl) (by kernel_rfl) (by kernel_rfl) (fun _ _ _ h => h) hS rfl ?_ ?_
                rotate_left
                · intro w' hSw
                  (try dsimp only at hSw)
                  first | (go_simp; done) | (go_simp; with_reducible rfl)
                refine wpAnyG_take (i := 1) (v := ?_) rfl (by kernel_rfl) (by kernel_rfl) (by kernel_rfl) (by kernel_rfl) (fun _ _ _ h => h) hS rfl ?_ ?_
                rotate_left
                · intro w' hSw
                  (try dsimp only at hSw)
                  first | (go_simp; done) | (go_simp; with_reducible rfl)
                have ne1 : O ≠ w.heap.size := by have := HOO.out.1; have := HDB2.out; omega
                have ne2 : O2 ≠ w.heap.size := by have := HOO.out.2; have := HBX.out.size; have := HDB2.out; omega
                refine wpAnyG_one (i := 2) (by kernel_rfl) rfl rfl (fun K hK => ?_)
                go_simp
                refine hK.out _ _ (fun _ _ => ⟨cell_set2 o0 ne1 _ _, cell_set2 o1 ne1 _ _, cell_set2 t0 ne2 _ _, cell_set2 t1 ne2 _ _, cell_set2 t2 ne2 _ _, cell_set2 t3 ne2 _ _⟩) ?_
                clear hK K
                refine wpAnyG_one (i := 3) (by kernel_rfl) rfl rfl (fun K hK => ?_)
                go_simp
                refine hK.out _ _ (fun h => absurd (by decide) h) ?_
                clear hK K ne1 ne2
                refine wpAnyG_done (by kernel_rfl) ?_ _
                have HRN : Hid (SsR w q ((((((wz.setCell ⟨w.heap.size, 0, none⟩ (.slice A6 (edDo l' e).length c6)).setCell ⟨w.heap.size, 1, none⟩ (.bool q)).setCell ⟨w.heap.size + 1, 0, none⟩ (.int .i64 ma.node)).setCell ⟨w.heap.size + 1, 1, none⟩ (.int .i64 ma.at_)).setCell ⟨w.heap.size + 1, 2, none⟩ (.int .i64 mb.node)).setCell ⟨w.heap.size + 1, 3, none⟩ (.int .i64 mb.at_)).drew) := ss_store HBR.out HBZ.out HDB2.out HXZ.out HYZ.out HSZ.out HZS.out HWM.out.1 HWM.out.2
                clear hS d0 d1 o0 o1 t0 t1 t2 t3 s0 s1 s2 s3 f0 f1 u0 u1 u2 u3
                go_wp2_with fail
                go_roundw
                case rel => exact ⟨k + 1, by omega, by go_num, HRN⟩
                case measure => simp [intOf]; omega
            · have hn1 : (pa.node == pb.node) = false := beq_eq_false_iff_ne.2 hn
              clear hn HEQ
              go_upto_region 14 with fail
              refine wp_region_G (S := (fun w' : World => w'.cell? ⟨O, 0, none⟩ = some (.slice A6 (edDo l' e).length c6) ∧ w'.cell? ⟨O, 1, none⟩ = some (.bool q) ∧ w'.cell? ⟨O2, 0, none⟩ = some (.int .i64 ma.node) ∧ w'.cell? ⟨O2, 1, none⟩ = some (.int .i64 ma.at_) ∧ w'.cell? ⟨O2, 2, none⟩ = some (.int .i64 mb.node) ∧ w'.cell? ⟨O2, 3, none⟩ = some (.int .i64 mb.at_))) (T := [3]) (by kernel_rfl) ?_
              have hS : (fun w' : World => w'.cell? ⟨O, 0, none⟩ = some (.slice A6 (edDo l' e).length c6) ∧ w'.cell? ⟨O, 1, none⟩ = some (.bool q) ∧ w'.cell? ⟨O2, 0, none⟩ = some (.int .i64 ma.node) ∧ w'.cell? ⟨O2, 1, none⟩ = some (.int .i64 ma.at_) ∧ w'.cell? ⟨O2, 2, none⟩ = some (.int .i64 mb.node) ∧ w'.cell? ⟨O2, 3, none⟩ = some (.int .i64 mb.at_)) wz.drew := ⟨o0, o1, t0, t1, t2, t3⟩
              refine wpAnyG_take (i := 0) (v := ?_) rfl (by kernel_rfl) (by kernel_rfl) (by kernel_rfl) (by kernel_rfl) (fun _ _ _ h => h) hS rfl ?_ ?_
              rotate_left
              · intro w' hSw
                (try dsimp only at hSw)
                first | (go_simp; done) | (go_simp; with_reducible rfl)
              refine wpAnyG_take (i := 1) (v := ?_) rfl (by kernel_rfl) (by kernel_rfl) (by kernel_rfl) (by kernel_rfl) (fun _ _ _ h => h) hS rfl ?_ ?_
              rotate_left
              · intro w' hSw
                (try dsimp only at hSw)
                first | (go_simp; done) | (go_simp; with_reducible rfl)
              have ne1 : O ≠ w.heap.size := by have := HOO.out.1; have := HDB2.out; omega
              have ne2 : O2 ≠ w.heap.size := by have := HOO.out.2; have := HBX.out.size; have := HDB2.out; omega
              refine wpAnyG_one (i := 2) (by kernel_rfl) rfl rfl (fun K hK => ?_)
              go_simp
              refine hK.out _ _ (fun _ _ => ⟨cell_set2 o0 ne1 _ _, cell_set2 o1 ne1 _ _, cell_set2 t0 ne2 _ _, cell_set2 t1 ne2 _ _, cell_set2 t2 ne2 _ _, cell_set2 t3 ne2 _ _⟩) ?_
              clear hK K
              refine wpAnyG_one (i := 3) (by kernel_rfl) rfl rfl (fun K hK => ?_)
              go_simp
              refine hK.out _ _ (fun h => absurd (by decide) h) ?_
              clear hK K ne1 ne2
              refine wpAnyG_done (by kernel_rfl) ?_ _
              have HRN : Hid (SsR w q ((((((wz.setCell ⟨w.heap.size, 0, none⟩ (.slice A6 (edDo l' e).length c6)).setCell ⟨w.heap.size, 1, none⟩ (.bool q)).setCell ⟨w.heap.size + 1, 0, none⟩ (.int .i64 ma.node)).setCell ⟨w.heap.size + 1, 1, none⟩ (.int .i64 ma.at_)).setCell ⟨w.heap.size + 1, 2, none⟩ (.int .i64 mb.node)).setCell ⟨w.heap.size + 1, 3, none⟩ (.int .i64 mb.at_)).drew) := ss_store HBR.out HBZ.out HDB2.out HXZ.out HYZ.out HSZ.out HZS.out HWM.out.1 HWM.out.2
              clear hS d0 d1 o0 o1 t0 t1 t2 t3 s0 s1 s2 s3 f0 f1 u0 u1 u2 u3
              go_wp2_with fail
              go_roundw
              case rel => exact ⟨k + 1, by omega, by go_num, HRN⟩
              case measure => simp [intOf]; omega
    · clear hxr hyr hdr hpa hpb
      have HBR := Lib.hid hbr
      go_wp2_with (go_at_call 27; refine (HBG.out wr).mono ?_; rintro e' w4 ⟨rfl, hb4⟩)
      go_ret
      exact ⟨rfl, HBR.out.trans (hb4.mono HBR.out.size)⟩
end Go.Proofs.YtcnogokemilhnaaDoor
