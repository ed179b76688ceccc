/-
Patches: what a pair of kids is worth; the table.
-/
import Derived.Test.YtomleengbnfikaaDoorPatSame
import Derived.StillTailTactics
namespace Go.Proofs.YtomleengbnfikaaDoor
open Go.RowKit Go.Cl
attribute [local go_sem ↓] Go.wp_at_zero Go.wp_at_succ

open Classical in
/-- What a pair is worth. -/
noncomputable def wthF (l1 l2 : List Nd) (f p p2 : Nat) : Int := match l1[p]?, l2[p2]? with
  | some x, some y => if kinB x y = true then (if Like l1 l2 f p p2 then 2 else 1) else 0
  | _, _ => 0
theorem wth_le (l1 l2 : List Nd) (f p p2 : Nat) : 0 ≤ wthF l1 l2 f p p2 ∧ wthF l1 l2 f p p2 ≤ 2 := by
  unfold wthF
  split
  · split
    · split <;> omega
    · omega
  · omega
theorem wth_no {l1 l2 : List Nd} {f p p2 : Nat} {x y : Nd} (hx : l1[p]? = some x) (hy : l2[p2]? = some y) (h : kinB x y = false) : wthF l1 l2 f p p2 = 0 := by
  unfold wthF
  rw [hx, hy]
  exact if_neg (by rw [h]; decide)
theorem wth_two {l1 l2 : List Nd} {f p p2 : Nat} {x y : Nd} (hx : l1[p]? = some x) (hy : l2[p2]? = some y) (h : kinB x y = true) (hl : Like l1 l2 f p p2) : wthF l1 l2 f p p2 = 2 := by
  unfold wthF
  rw [hx, hy]
  exact (if_pos h).trans (if_pos hl)
theorem wth_one {l1 l2 : List Nd} {f p p2 : Nat} {x y : Nd} (hx : l1[p]? = some x) (hy : l2[p2]? = some y) (h : kinB x y = true) (hl : ¬ Like l1 l2 f p p2) : wthF l1 l2 f p p2 = 1 := by
  unfold wthF
  rw [hx, hy]
  exact (if_pos h).trans (if_neg hl)
/-- The boxes of worth: the differ, the two lists. -/
structure Wb (w : World) (X2 X3 X4 E : Nat) (b1 o1 n1 c1 : Nat) (q1 : Bool) (b2 o2 n2 c2 : Nat) (q2 : Bool) (v : Value) (mm : Int) (A : Option Addr) (L c : Nat) (A2 : Option Addr) (M c2' : Nat) : Prop where
  x2 : w.heap[X2]? = some (.cells #[.pointer (some ⟨E, 0, none⟩)] 57 (0, 0))
  x3 : w.heap[X3]? = some (.cells #[.slice A L c] 26 (0, 0))
  x4 : w.heap[X4]? = some (.cells #[.slice A2 M c2'] 26 (0, 0))
  e : w.heap[E]? = some (.cells (dfCells (some ⟨b1, o1, none⟩) n1 c1 q1 (some ⟨b2, o2, none⟩) n2 c2 q2 v mm) 59 (0, 0))
theorem Wb.next {w w' : World} {X2 X3 X4 E b1 o1 n1 c1 : Nat} {q1 : Bool} {b2 o2 n2 c2 : Nat} {q2 : Bool} {v : Value} {mm : Int} {A : Option Addr} {L c : Nat} {A2 : Option Addr} {M c2' : Nat} (h : Wb w X2 X3 X4 E b1 o1 n1 c1 q1 b2 o2 n2 c2 q2 v mm A L c A2 M c2') (hb : Below w.heap.size w w') : Wb w' X2 X3 X4 E b1 o1 n1 c1 q1 b2 o2 n2 c2 q2 v mm A L c A2 M c2' :=
  ⟨(hb.block _ (Array.getElem?_eq_some_iff.1 h.x2).1).trans h.x2, (hb.block _ (Array.getElem?_eq_some_iff.1 h.x3).1).trans h.x3, (hb.block _ (Array.getElem?_eq_some_iff.1 h.x4).1).trans h.x4, (hb.block _ (Array.getElem?_eq_some_iff.1 h.e).1).trans h.e⟩
set_option maxRecDepth 100000 in
set_option maxHeartbeats 8000000 in
theorem worth_any {l1 l2 : List Nd} (T1 : Tree l1) (T2 : Tree l2) (X2 X3 X4 E b1 o1 n1 c1 b2 o2 n2 c2 : Nat) (q1 q2 : Bool) (v : Value) (mm : Int) (hn1 : n1 ≤ c1) (hn2 : n2 ≤ c2) (f : Nat) (A : Option Addr) (L c : Nat) (ks : List Int) (A2 : Option Addr) (M c2' : Nat) (ks2 : List Int) (i k p p2 : Nat) (w : World) (B : Nat)
    (hd1 : DocAt w B b1 o1 n1 l1) (hd2 : DocAt w B b2 o2 n2 l2) (hB : B ≤ w.heap.size) (hs1 : n1 ≤ 1000) (hs2 : n2 ≤ 1000) (hW : Wb w X2 X3 X4 E b1 o1 n1 c1 q1 b2 o2 n2 c2 q2 v mm A L c A2 M c2') (hk : Sl (tInt .i64) w (lt B) A L c ks) (hk2 : Sl (tInt .i64) w (lt B) A2 M c2' ks2) (hp : ks[i]? = some (p : Int)) (hp2 : ks2[k]? = some (p2 : Int)) (hpl : p < l1.length) (hpl2 : p2 < l2.length) (hup : upN l1 p + f = 41) :
    Calls Tryd.prog 52 #[.int .i64 (i : Int), .int .i64 (k : Int), .pointer (some ⟨X2, 0, none⟩), .pointer (some ⟨X3, 0, none⟩), .pointer (some ⟨X4, 0, none⟩)] w fun e' w' => e' = .returned (.int .i64 (wthF l1 l2 f p p2)) ∧ Below w.heap.size w w' := by
  obtain ⟨x, hx⟩ : ∃ x, l1[p]? = some x := get_some hpl
  obtain ⟨y, hy⟩ : ∃ y, l2[p2]? = some y := get_some hpl2
  have HXX := Lib.hid hx
  have HYY := Lib.hid hy
  obtain ⟨Aa, na, ca, Ak, nk, ck, hnd1, u0, u1, u2, u3, u4, u5⟩ := hd1.at_ p x hx
  obtain ⟨Aa2, na2, ca2, Ak2, nk2, ck2, hnd2, d0, d1, d2, d3, d4, d5⟩ := hd2.at_ p2 y hy
  obtain ⟨g1, r1, eg1, _, k1, _⟩ := hk.int hp
  obtain ⟨g2, r2, eg2, _, k2, _⟩ := hk2.int hp2
  subst eg1 eg2
  have x2 : w.cell? ⟨X2, 0, none⟩ = some (.pointer (some ⟨E, 0, none⟩)) := cell_blk (i := 0) hW.x2 rfl
  have x3 : w.cell? ⟨X3, 0, none⟩ = some (.slice (some ⟨g1, r1, none⟩) L c) := cell_blk (i := 0) hW.x3 rfl
  have x4 : w.cell? ⟨X4, 0, none⟩ = some (.slice (some ⟨g2, r2, none⟩) M c2') := cell_blk (i := 0) hW.x4 rfl
  have e0 : w.cell? ⟨E, 0, none⟩ = some (.slice (some ⟨b1, o1, none⟩) n1 c1) := cell_blk (i := 0) hW.e rfl
  have e2 : w.cell? ⟨E, 2, none⟩ = some (.slice (some ⟨b2, o2, none⟩) n2 c2) := cell_blk (i := 2) hW.e rfl
  have i1 : (0 : Int) ≤ (i : Int) := by omega
  have i2 : (i : Int) < (L : Int) := by have := (List.getElem?_eq_some_iff.1 hp).1; have := hk.hn; omega
  have i3 : (0 : Int) ≤ (k : Int) := by omega
  have i4 : (k : Int) < (M : Int) := by have := (List.getElem?_eq_some_iff.1 hp2).1; have := hk2.hn; omega
  have i5 : (0 : Int) ≤ (p : Int) := by omega
  have i6 : (p : Int) < (n1 : Int) := by have := hd1.hn; omega
  have i7 : (0 : Int) ≤ (p2 : Int) := by omega
  have i8 : (p2 : Int) < (n2 : Int) := by have := hd2.hn; omega
  have HK := Lib.hid (fun W => kin_any x y Aa na ca Ak nk ck Aa2 na2 ca2 Ak2 nk2 ck2 W)
  have HSM := Lib.hid (fun W (hb : Below w.heap.size w W) => dsame_any T1 T2 E b1 o1 n1 c1 b2 o2 n2 c2 q1 q2 v mm hn1 hn2 f p p2 W B hpl hpl2 hup (hd1.below hb hB) (hd2.below hb hB) (Nat.le_trans hB hb.size) hs1 hs2 (hW.next hb).e)
  have hlc := hk.hc
  have hmc := hk2.hc
  clear hd1 hd2 hW hk hk2 hp hp2 hpl hpl2 hup hx hy hnd1 hnd2 T1 T2 hB
  go_enter Tryd.func52, Tryd.ntmps52
  go_upto_region 1 with fail
  go_still_tail 22, (by kernel_rfl)
  change wpList _ _ _ _ _ w.drew
  have hbd : Below w.heap.size w w.drew := (Below.refl _ w).drew
  have X2' := cell_be x2 hbd
  have X3' := cell_be x3 hbd
  have X4' := cell_be x4 hbd
  have E0' := cell_be e0 hbd
  have E2' := cell_be e2 hbd
  have K1' := cell_be k1 hbd
  have K2' := cell_be k2 hbd
  generalize w.drew = wd at *
  cases hkin : kinB x y with
  | false =>
    have HW0 := Lib.hid (wth_no (f := f) HXX.out HYY.out hkin)
    rw [hkin] at HK
    clear hkin
    go_wp2_with (go_at_call 53; refine (HK.out _).mono ?_; rintro e' wk ⟨rfl, hbk⟩)
    go_ret
    exact ⟨by rw [HW0.out]; rfl, hbd.trans (hbk.mono hbd.size)⟩
  | true =>
    have HKT := Lib.hid hkin
    rw [hkin] at HK
    clear hkin
    go_upto_region 3 with (go_at_call 53; refine (HK.out _).mono ?_; rintro e' wk ⟨rfl, hbk⟩)
    have hbwk := hbd.trans (hbk.mono hbd.size)
    have y2 := cell_be x2 hbwk
    have y3 := cell_be x3 hbwk
    have y4 := cell_be x4 hbwk
    have z1 := cell_be k1 hbwk
    have z2 := cell_be k2 hbwk
    have HBK := Lib.hid hbwk
    clear x2 x3 x4 e0 e2 k1 k2 X2' X3' X4' E0' E2' K1' K2' u0 u1 u2 u3 u4 u5 d0 d1 d2 d3 d4 d5 hbd hbk hbwk
    go_still_tail 9, (by kernel_rfl)
    change wpList _ _ _ _ _ wk.drew
    have hbd2 : Below w.heap.size w wk.drew := HBK.out.drew
    have HBD2 := Lib.hid hbd2
    by_cases hl : Like l1 l2 f p p2
    · have HS := Lib.hid ((HSM.out _ hbd2).mono (R' := fun e' w' => e' = .returned (.bool true) ∧ Below wk.heap.size wk w') fun e' w' h => by
        obtain ⟨⟨r, rfl, hr⟩, hb⟩ := h
        rw [hr.2 hl]
        exact ⟨rfl, (Below.refl _ wk).drew.trans hb⟩)
      have HW2 := Lib.hid (wth_two HXX.out HYY.out HKT.out hl)
      clear hl hbd2
      go_wp2_with (go_at_call 54; refine HS.out.mono ?_; rintro e' ws ⟨rfl, hbs⟩)
      go_ret
      exact ⟨by rw [HW2.out]; rfl, HBK.out.trans (hbs.mono HBK.out.size)⟩
    · have HS := Lib.hid ((HSM.out _ hbd2).mono (R' := fun e' w' => e' = .returned (.bool false) ∧ Below wk.heap.size wk w') fun e' w' h => by
        obtain ⟨⟨r, rfl, hr⟩, hb⟩ := h
        cases r with
        | true => exact absurd (hr.1 rfl) hl
        | false => exact ⟨rfl, (Below.refl _ wk).drew.trans hb⟩)
      have HW2 := Lib.hid (wth_one HXX.out HYY.out HKT.out hl)
      clear hl hbd2
      go_wp2_with (go_at_call 54; refine HS.out.mono ?_; rintro e' ws ⟨rfl, hbs⟩)
      go_ret
      exact ⟨by rw [HW2.out]; rfl, HBK.out.trans (hbs.mono HBK.out.size)⟩
end Go.Proofs.YtomleengbnfikaaDoor
