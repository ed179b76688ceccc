/-
The walks of package dom: ask.
-/
import Derived.Test.YtomleengbnfikaaDoorTreeB
namespace Go.Proofs.YtomleengbnfikaaDoor
open Go.RowKit Go.Cl
attribute [local go_sem ↓] Go.wp_at_zero Go.wp_at_succ

/-- What ask says. -/
def askS (l : List Nd) (m : Int) : Int := if checkD l ≠ 0 then checkD l else if m < 0 ∨ (l.length : Int) ≤ m then 1 else 0
set_option maxRecDepth 100000 in
set_option maxHeartbeats 4000000 in
theorem ask_any (A : Option Addr) (n c : Nat) (l : List Nd) (q : Bool) (m : Int) (w : World) (B : Nat) (hl : Sl tNd w (lt B) A n c l) (hB : B ≤ w.heap.size) :
    Calls Tryd.prog 15 #[.agg #[.slice A n c, .bool q], .int .i64 m] w fun e w' => e = .returned (.int .i64 (askS l m)) ∧ Below w.heap.size w w' := by
  obtain ⟨w0, hw0⟩ : ∃ w0, w0 = w.alloc (.cells #[.slice A n c, .bool q] 24) := ⟨_, rfl⟩
  have hbx : w0.heap[w.heap.size]? = some (.cells #[.slice A n c, .bool q] 24 (0, 0)) := by rw [hw0]; exact heap_alloc_new w _
  have b0 : w0.cell? ⟨w.heap.size, 0, none⟩ = some (.slice A n c) := cell_blk hbx rfl
  have b1 : w0.cell? ⟨w.heap.size, 1, none⟩ = some (.bool q) := cell_blk hbx rfl
  have hb0 : Below w.heap.size w w0 := by rw [hw0]; exact (Below.refl _ _).alloc (Nat.le_refl _) _
  have HB0 := Lib.hid hb0
  have HBX := Lib.hid hbx
  have HN := Lib.hid hl.hn
  have HCH := Lib.hid (check_dom A n c l q w0 B (hl.below hb0 hB) (Nat.le_trans hB hb0.size))
  clear hb0 hbx hl
  go_enter Tryd.func15, Tryd.ntmps15
  go_upto_region 1 with fail
  rw [← hw0]
  clear hw0
  go_upto_region 2 with (go_at_call 11; refine HCH.out.mono ?_; rintro e w1 ⟨rfl, hb1⟩)
  have HB1 := Lib.hid (HB0.out.trans (hb1.mono HB0.out.size))
  have hbx1 := (hb1.block _ (Array.getElem?_eq_some_iff.1 HBX.out).1).trans HBX.out
  have y0 : w1.cell? ⟨w.heap.size, 0, none⟩ = some (.slice A n c) := cell_blk hbx1 rfl
  have y1 : w1.cell? ⟨w.heap.size, 1, none⟩ = some (.bool q) := cell_blk hbx1 rfl
  clear hb1 hbx1 b0 b1
  by_cases hce : checkD l = 0
  · by_cases hm : m < 0
    · have HR := Lib.hid (show askS l m = 1 from by unfold askS; rw [if_neg (by rw [hce]; simp), if_pos (Or.inl hm)])
      rw [hce]
      go_wp2_with fail
      go_ret
      exact ⟨by rw [HR.out]; rfl, HB1.out⟩
    · by_cases hm2 : (n : Int) ≤ m
      · have HR := Lib.hid (show askS l m = 1 from by unfold askS; rw [if_neg (by rw [hce]; simp), if_pos (Or.inr (by have := HN.out; omega))])
        rw [hce]
        go_wp2_with fail
        go_ret
        exact ⟨by rw [HR.out]; rfl, HB1.out⟩
      · have HR := Lib.hid (show askS l m = 0 from by unfold askS; rw [if_neg (by rw [hce]; simp), if_neg (by have := HN.out; omega)])
        rw [hce]
        go_wp2_with fail
        go_ret
        exact ⟨by rw [HR.out]; rfl, HB1.out⟩
  · have HR := Lib.hid (show askS l m = checkD l from by unfold askS; rw [if_pos hce])
    have hce1 : (checkD l == 0) = false := by simpa using hce
    generalize checkD l = e0 at *
    clear hce
    go_wp2_with fail
    go_ret
    exact ⟨by rw [HR.out]; rfl, HB1.out⟩
end Go.Proofs.YtomleengbnfikaaDoor

/-
The walks of package dom: walk, Order.
-/
namespace Go.Proofs.YtomleengbnfikaaDoor
open Go.RowKit Go.Cl
attribute [local go_sem ↓] Go.wp_at_zero Go.wp_at_succ

/-- The boxes of documents lie as they lay. -/
structure Boxes (w w' : World) : Prop where
  same : ∀ (k : Nat) (cs : Array Value) (fr : Nat × Nat), w.heap[k]? = some (.cells cs 24 fr) → w'.heap[k]? = some (.cells cs 24 fr)
theorem Boxes.refl (w : World) : Boxes w w := ⟨fun _ _ _ h => h⟩
theorem Boxes.trans {a b c : World} (h : Boxes a b) (k : Boxes b c) : Boxes a c := ⟨fun i cs fr hi => k.same i cs fr (h.same i cs fr hi)⟩
theorem Boxes.alloc (w : World) (o : Obj) : Boxes w (w.alloc o) := ⟨fun k _ _ hk => (Lib.alloc_old w o k (Array.getElem?_eq_some_iff.1 hk).1).trans hk⟩
theorem Boxes.own {w w' : World} {B n : Nat} {v : Value} {xs : List Int} (h : OwnF (tInt .i64) w B 3 v n xs) (hg : w.grownBy w' v.ownBlock) : Boxes w w' := by
  obtain ⟨cells, h, _⟩ := h
  refine ⟨fun k cs fr hk => (hg.block k (Array.getElem?_eq_some_iff.1 hk).1 ?_).trans hk⟩
  rcases h.2 with ⟨rfl, _⟩ | ⟨g, cap, cur, rfl, _, hc, _⟩
  · simp [Value.ownBlock]
  · intro e
    simp only [Value.ownBlock, Option.some.injEq] at e
    subst e
    rw [hc] at hk
    cases hk

theorem fm_len {f : Int → List Int} {xs : List Int} {j : Nat} {x : Int} (hx : xs[j]? = some x) : ((xs.take j).flatMap f).length + (f x).length ≤ (xs.flatMap f).length := by
  have hj := (List.getElem?_eq_some_iff.1 hx)
  have e : xs.flatMap f = (xs.take j).flatMap f ++ (f x ++ (xs.drop (j + 1)).flatMap f) := by
    conv => lhs; rw [← List.take_append_drop j xs, List.drop_eq_getElem_cons hj.1, hj.2]
    rw [List.flatMap_append, List.flatMap_cons]
  rw [e, List.length_append, List.length_append]
  omega
theorem fm_take {f : Int → List Int} {xs : List Int} {j : Nat} {x : Int} (hx : xs[j]? = some x) : (xs.take (j + 1)).flatMap f = (xs.take j).flatMap f ++ f x := by
  rw [List.take_add_one, hx, List.flatMap_append]
  simp

set_option maxRecDepth 100000 in
set_option maxHeartbeats 4000000 in
theorem pre_any (l : List Nd) (T : Tree l) (b o n c : Nat) (q : Bool) (_ : n ≤ c) (f : Nat) : ∀ (m : Nat) (xs : List Int) (v : Value) (w : World) (base : Nat), m < l.length → upN l m + f = 41 → OwnF (tInt .i64) w base 3 v xs.length xs → DocAt w base b o n l → base ≤ w.heap.size → xs.length + (preR l m).length ≤ 200 →
    Calls Tryd.prog 28 #[.agg #[.slice (some ⟨b, o, none⟩) n c, .bool q], .int .i64 (m : Int), v] w fun e w' => ∃ v', e = .returned v' ∧ OwnF (tInt .i64) w' base 3 v' (xs ++ preR l m).length (xs ++ preR l m) ∧ Below base w w' ∧ Boxes w w' := by
  induction f with
  | zero =>
    intro m xs v w base hm hf
    have := (T.deep m hm).1
    omega
  | succ f ih =>
    intro m xs v w base hm hf hown hd hB hlen
    have IH := Lib.hid ih
    have HPS := Lib.hid (T.pre_step hm)
    have HT := Lib.hid T
    have HLEN : Hid (xs.length + (((m : Int) :: (kidsD l m).flatMap (preR l)).length) ≤ 200) := by rw [← HPS.out]; exact hlen
    have HUP : Hid (∀ k ∈ kidsD l m, ∃ p : Nat, k = (p : Int) ∧ p < l.length ∧ upN l p + f = 41) := fun k hk => by
      obtain ⟨p, e, hp, hpar⟩ := T.kid hm hk
      exact ⟨p, e, hp, by have := (T.up_par hp hpar).2; omega⟩
    clear ih T
    obtain ⟨A2, c2, rfl⟩ := Own.form hown
    have HN := Lib.hid hd.hn
    have hx200 : xs.length ≤ 199 := by have := HLEN.out; rw [List.length_cons] at this; omega
    obtain ⟨w0, hw0⟩ : ∃ w0, w0 = w.alloc (.cells #[.slice (some ⟨b, o, none⟩) n c, .bool q] 24) := ⟨_, rfl⟩
    have hbx : w0.heap[w.heap.size]? = some (.cells #[.slice (some ⟨b, o, none⟩) n c, .bool q] 24 (0, 0)) := by rw [hw0]; exact heap_alloc_new w _
    have b0 : w0.cell? ⟨w.heap.size, 0, none⟩ = some (.slice (some ⟨b, o, none⟩) n c) := cell_blk hbx rfl
    have b1 : w0.cell? ⟨w.heap.size, 1, none⟩ = some (.bool q) := cell_blk hbx rfl
    have hb0 : Below base w w0 := by rw [hw0]; exact (Below.refl _ _).alloc hB _
    have hk0 : Boxes w w0 := by rw [hw0]; exact Boxes.alloc w _
    have ho0 : OwnF (tInt .i64) w0 base 3 (.slice A2 xs.length c2) xs.length xs := by rw [hw0]; exact OwnF.al hown _
    have HB0 := Lib.hid hb0
    have HK0 := Lib.hid hk0
    have HBX := Lib.hid hbx
    have HD0 := Lib.hid (hd.below hb0 (Nat.le_refl _))
    have hz0 : base ≤ w0.heap.size := Nat.le_trans hB hb0.size
    have HF : Hid (Lit.wf (.int .i64 (m : Int)) = true) := WalkArith.wf_i64 (by have := HT.out.small; omega)
    have hm200 : m < n := by have := HN.out; omega
    have hn200 : n ≤ 200 := by have := HN.out; have := HT.out.small; omega
    clear hb0 hk0 hbx hown hd hlen
    go_enter Tryd.func28, Tryd.ntmps28
    go_upto_region 1 with fail
    rw [← hw0]
    clear hw0
    go_upto_region 2 with (at_builtin; refine wpList_ap1 _ rfl (.tmp 9) (.tmp 11) 26 rfl elemI (v := .slice A2 xs.length c2) (D := fun _ => False) rfl (OwnF.al ho0 _) (fun _ h => h.elim) (y := (m : Int)) (cs := [.int .i64 (m : Int)]) rfl ⟨rfl, HF.out⟩ (cell_new w0 _ _) (by omega) (by omega) (by rw [World.size_alloc]; omega) ?_; intro v1 w1 hown1 hg1 hbl1 _)
    have hk1 : Boxes w0 w1 := (Boxes.alloc w0 _).trans (Boxes.own (OwnF.al ho0 _) hg1)
    have hb1 : Below base w0 w1 := ((Below.refl _ _).alloc hz0 _).trans hbl1
    have HK1 := Lib.hid (HK0.out.trans hk1)
    have HB1 := Lib.hid (HB0.out.trans hb1)
    have HBX1 := Lib.hid (hk1.same _ _ _ HBX.out)
    have y0 : w1.cell? ⟨w.heap.size, 0, none⟩ = some (.slice (some ⟨b, o, none⟩) n c) := cell_blk HBX1.out rfl
    have y1 : w1.cell? ⟨w.heap.size, 1, none⟩ = some (.bool q) := cell_blk HBX1.out rfl
    have HD1 := Lib.hid (HD0.out.below hb1 (Nat.le_refl _))
    have hz1 : base ≤ w1.heap.size := Nat.le_trans hz0 hb1.size
    obtain ⟨nd, hnd⟩ := get_some (l := l) hm
    obtain ⟨Aa, na, ca, Ak, nk, ck, hnat, _, _, _, _, _, c5⟩ := HD1.out.at_ m nd hnd
    have hks := hnat.kids
    rw [← kidsD_at hnd] at hks
    have hnk := hks.small
    have HKN := Lib.hid hks.hn
    have hck := hks.hc
    have HKS := Lib.hid hks
    have i1 : (0 : Int) ≤ (m : Int) := by omega
    have i2 : (m : Int) < (n : Int) := by omega
    have HO1 : Hid (OwnF (tInt .i64) w1 base 3 v1 (xs ++ [(m : Int)]).length (xs ++ [(m : Int)])) := by
      rw [List.length_append]
      exact hown1
    clear hown1 hg1 hbl1 hk1 hb1 hnat hks ho0 b0 b1 hnd
    generalize kidsD l m = ks at *
    go_wp2_with fail
    go_loopw [20, 2] (fun s u wr => ∃ (j : Nat) (ys : List Int), j ≤ nk ∧ s = .int .i64 (j : Int) ∧ Below base w1 wr ∧ Boxes w1 wr ∧ OwnF (tInt .i64) wr base 3 u ys.length ys ∧ Hid (ys = xs ++ (m : Int) :: (ks.take j).flatMap (preR l))) (fun s _ _ => nk - (intOf s).toNat)
    case atStart => exact ⟨0, _, Nat.zero_le _, rfl, Below.refl _ _, Boxes.refl _, HO1.out, Lib.hid rfl⟩
    case round =>
      obtain ⟨j, ys, hj, rfl, hb, hk, hown, HY⟩ := hrel
      have HBR := Lib.hid hb
      have HKR := Lib.hid hk
      obtain ⟨A3, c3, rfl⟩ := Own.form hown
      by_cases hlt : j < nk
      · obtain ⟨x, hx⟩ : ∃ x, ks[j]? = some x := get_some (by have := HKN.out; omega)
        obtain ⟨k, rfl, hkl, hup⟩ := HUP.out x (List.mem_of_getElem? hx)
        obtain ⟨gk, ok, rfl, _, cx, _⟩ := (HKS.out.below hb (Nat.le_refl _)).int hx
        have hyl : ys.length + (preR l (k : Int)).length ≤ 200 := by
          have h1 := HLEN.out
          have h2 := fm_len (f := preR l) hx
          have h3 := congrArg List.length HY.out
          rw [List.length_append, List.length_cons] at h3
          rw [List.length_cons] at h1
          omega
        have HC := Lib.hid (IH.out k ys _ wr base hkl hup hown (HD1.out.below hb (Nat.le_refl _)) (Nat.le_trans hz1 hb.size) hyl)
        have HY2 : Hid (ys ++ preR l (k : Int) = xs ++ (m : Int) :: (ks.take (j + 1)).flatMap (preR l)) := by
          show _ = _
          rw [fm_take hx, show ys = _ from HY.out, List.append_assoc]
          rfl
        have hbx2 := HKR.out.same _ _ _ HBX1.out
        have z0 : wr.cell? ⟨w.heap.size, 0, none⟩ = some (.slice (some ⟨b, o, none⟩) n c) := cell_blk hbx2 rfl
        have z1 : wr.cell? ⟨w.heap.size, 1, none⟩ = some (.bool q) := cell_blk hbx2 rfl
        clear hb hk hown hyl hx hbx2 hup
        generalize ys.length = ny at *
        go_wp2_with (go_at_call 28; refine HC.out.mono ?_; rintro e w2 ⟨v2, rfl, hown2, hb2, hk2⟩)
        go_roundw
        case rel => exact ⟨j + 1, _, by omega, by go_num, HBR.out.trans hb2, HKR.out.trans hk2, hown2, HY2⟩
        case measure => simp [intOf]; omega
      · have HYE : Hid (ys = xs ++ preR l m) := by
          show _ = _
          rw [show preR l m = _ from HPS.out, show ys = _ from HY.out, List.take_of_length_le (by have := HKN.out; omega)]
        go_wp2_with fail
        go_ret
        exact ⟨_, rfl, by rw [← show ys = _ from HYE.out]; exact hown, HB1.out.trans hb, HK1.out.trans hk⟩
/-- What Order hands back. -/
def OPost (w : World) (l : List Nd) (e : Ending) (w' : World) : Prop :=
  Below w.heap.size w w' ∧ ((checkD l ≠ 0 ∧ e = .returned (.tuple #[.slice none 0 0, .int .i64 (checkD l)])) ∨
    (checkD l = 0 ∧ ∃ v, e = .returned (.tuple #[v, .int .i64 0]) ∧ OwnF (tInt .i64) w' w.heap.size 3 v (preR l 0).length (preR l 0)))
set_option maxRecDepth 100000 in
set_option maxHeartbeats 4000000 in
theorem order_any (A : Option Addr) (n c : Nat) (l : List Nd) (q : Bool) (w : World) (B : Nat) (hl : Sl tNd w (lt B) A n c l) (hB : B ≤ w.heap.size) :
    Calls Tryd.prog 17 #[.agg #[.slice A n c, .bool q]] w (OPost w l) := by
  obtain ⟨w0, hw0⟩ : ∃ w0, w0 = w.alloc (.cells #[.slice A n c, .bool q] 24) := ⟨_, rfl⟩
  have hbx : w0.heap[w.heap.size]? = some (.cells #[.slice A n c, .bool q] 24 (0, 0)) := by rw [hw0]; exact heap_alloc_new w _
  have b0 : w0.cell? ⟨w.heap.size, 0, none⟩ = some (.slice A n c) := cell_blk hbx rfl
  have b1 : w0.cell? ⟨w.heap.size, 1, none⟩ = some (.bool q) := cell_blk hbx rfl
  have hb0 : Below w.heap.size w w0 := by rw [hw0]; exact (Below.refl _ _).alloc (Nat.le_refl _) _
  have HB0 := Lib.hid hb0
  have HBX := Lib.hid hbx
  have HL := Lib.hid hl
  have HCH := Lib.hid (check_dom A n c l q w0 B (hl.below hb0 hB) (Nat.le_trans hB hb0.size))
  clear hb0 hbx hl
  go_enter Tryd.func17, Tryd.ntmps17
  go_upto_region 1 with fail
  rw [← hw0]
  clear hw0
  by_cases hce : checkD l = 0
  · rw [hce] at HCH
    have ht := tree_of hce
    have hpos := ht.pos
    have HTR := Lib.hid ht
    have hn0 : 0 < n := by have := HL.out.hn; omega
    obtain ⟨b, o, rfl, hd⟩ := doc_at HL.out hn0
    have HD := Lib.hid hd
    have hcap := HL.out.hc
    have HCE := Lib.hid hce
    clear hce hd ht hpos
    go_upto_region 4 with (go_at_call 11; refine HCH.out.mono ?_; rintro e w1 ⟨rfl, hb1⟩)
    have HB1 := Lib.hid (HB0.out.trans (hb1.mono HB0.out.size))
    have hbx1 : w1.heap[w.heap.size]? = some (.cells #[.slice (some ⟨b, o, none⟩) n c, .bool q] 24 (0, 0)) := (hb1.block _ (Array.getElem?_eq_some_iff.1 HBX.out).1).trans HBX.out
    have y0 : w1.cell? ⟨w.heap.size, 0, none⟩ = some (.slice (some ⟨b, o, none⟩) n c) := cell_blk hbx1 rfl
    have y1 : w1.cell? ⟨w.heap.size, 1, none⟩ = some (.bool q) := cell_blk hbx1 rfl
    have HP : Hid (Calls Tryd.prog 28 #[.agg #[.slice (some ⟨b, o, none⟩) n c, .bool q], .int .i64 0, .slice none 0 0] w1 fun e w' => ∃ v', e = .returned v' ∧ OwnF (tInt .i64) w' w.heap.size 3 v' (preR l 0).length (preR l 0) ∧ Below w.heap.size w1 w' ∧ Boxes w1 w') :=
      pre_any l HTR.out b o n c q hcap (41 - upN l (0 : Nat)) 0 [] (.slice none 0 0) w1 w.heap.size HTR.out.pos (by have := (HTR.out.deep 0 HTR.out.pos).1; omega) (OwnF.nil _ _ _) ((HD.out.below HB1.out hB).more hB) HB1.out.size (by show 0 + (preR l 0).length ≤ 200; have := HTR.out.all_few; omega)
    clear hb1 hbx1 b0 b1
    go_wp2_with (go_at_call 28; refine HP.out.mono ?_; rintro e w2 ⟨v2, rfl, hown2, hb2, _⟩)
    go_ret2
    exact ⟨HB1.out.trans hb2, Or.inr ⟨HCE.out, _, rfl, hown2⟩⟩
  · have hce1 : (checkD l != 0) = true := by simpa using hce
    have HCE := Lib.hid hce
    have HPO : Hid (∀ w', Below w.heap.size w w' → OPost w l (.returned (.tuple #[.slice none 0 0, .int .i64 (checkD l)])) w') := fun w' h => ⟨h, Or.inl ⟨HCE.out, rfl⟩⟩
    generalize checkD l = e0 at *
    clear hce
    go_wp2_with (go_at_call 11; refine HCH.out.mono ?_; rintro e w1 ⟨rfl, hb1⟩)
    go_ret2
    exact HPO.out _ (HB0.out.trans (hb1.mono HB0.out.size))
end Go.Proofs.YtomleengbnfikaaDoor

/-
The walks of package dom: Path.
-/
namespace Go.Proofs.YtomleengbnfikaaDoor
open Go.RowKit Go.Cl
attribute [local go_sem ↓] Go.wp_at_zero Go.wp_at_succ

/-- What Path hands back. -/
def PPost (w : World) (l : List Nd) (m : Int) (e : Ending) (w' : World) : Prop :=
  Below w.heap.size w w' ∧ ((askS l m ≠ 0 ∧ e = .returned (.tuple #[.slice none 0 0, .int .i64 (askS l m)])) ∨
    (askS l m = 0 ∧ topR l m ≠ 0 ∧ e = .returned (.tuple #[.slice none 0 0, .int .i64 5])) ∨
    (askS l m = 0 ∧ topR l m = 0 ∧ ∃ v, e = .returned (.tuple #[v, .int .i64 0]) ∧ OwnF (tInt .i64) w' w.heap.size 3 v (pathL l m).length (pathL l m)))
theorem ask_in {l : List Nd} {m : Int} (h : askS l m = 0) : checkD l = 0 ∧ ∃ k : Nat, m = (k : Int) ∧ k < l.length := by
  unfold askS at h
  by_cases h1 : checkD l = 0
  · rw [if_neg (by rw [h1]; simp)] at h
    by_cases h2 : m < 0 ∨ (l.length : Int) ≤ m
    · rw [if_pos h2] at h; cases h
    · exact ⟨h1, m.toNat, by omega, by omega⟩
  · rw [if_pos h1] at h; exact absurd h h1
set_option maxRecDepth 100000 in
set_option maxHeartbeats 4000000 in
theorem domPath_any (A : Option Addr) (n c : Nat) (l : List Nd) (q : Bool) (m : Int) (w : World) (B : Nat) (hl : Sl tNd w (lt B) A n c l) (hB : B ≤ w.heap.size) :
    Calls Tryd.prog 7 #[.agg #[.slice A n c, .bool q], .int .i64 m] w (PPost w l m) := by
  obtain ⟨w0, hw0⟩ : ∃ w0, w0 = w.alloc (.cells #[.slice A n c, .bool q] 24) := ⟨_, rfl⟩
  have hbx : w0.heap[w.heap.size]? = some (.cells #[.slice A n c, .bool q] 24 (0, 0)) := by rw [hw0]; exact heap_alloc_new w _
  have b0 : w0.cell? ⟨w.heap.size, 0, none⟩ = some (.slice A n c) := cell_blk hbx rfl
  have b1 : w0.cell? ⟨w.heap.size, 1, none⟩ = some (.bool q) := cell_blk hbx rfl
  have hb0 : Below w.heap.size w w0 := by rw [hw0]; exact (Below.refl _ _).alloc (Nat.le_refl _) _
  have HB0 := Lib.hid hb0
  have HBX := Lib.hid hbx
  have HL := Lib.hid hl
  have HA := Lib.hid (ask_any A n c l q m w0 B (hl.below hb0 hB) (Nat.le_trans hB hb0.size))
  clear hb0 hbx hl
  go_enter Tryd.func7, Tryd.ntmps7
  go_upto_region 1 with fail
  rw [← hw0]
  clear hw0
  go_upto_region 2 with (go_at_call 15; refine HA.out.mono ?_; rintro e w1 ⟨rfl, hb1⟩)
  have HB1 := Lib.hid (HB0.out.trans (hb1.mono HB0.out.size))
  have hbx1 := (hb1.block _ (Array.getElem?_eq_some_iff.1 HBX.out).1).trans HBX.out
  have HBX1 := Lib.hid hbx1
  have y0 : w1.cell? ⟨w.heap.size, 0, none⟩ = some (.slice A n c) := cell_blk hbx1 rfl
  have y1 : w1.cell? ⟨w.heap.size, 1, none⟩ = some (.bool q) := cell_blk hbx1 rfl
  clear hb1 hbx1 b0 b1
  by_cases hce : askS l m = 0
  · obtain ⟨hcd, k0, rfl, hk0⟩ := ask_in hce
    have T := tree_of hcd
    have HT := Lib.hid T
    have HCE := Lib.hid hce
    have hpos := T.pos
    have hcl := T.chain_len hk0
    have hn0 : 0 < n := by have := HL.out.hn; omega
    obtain ⟨b, o, rfl, hd⟩ := doc_at HL.out hn0
    have HD1 := Lib.hid ((hd.below HB1.out hB).more hB)
    have HN := Lib.hid HL.out.hn
    have hcap := HL.out.hc
    have hz1 := HB1.out.size
    rw [hce]
    clear hce hcd T hd HA
    go_wp2_with fail
    go_loopw [1, 7] (fun s v wr => ∃ (z : Int) (xs : List Int), s = .int .i64 z ∧ (z = -1 ∨ ∃ k : Nat, z = (k : Int) ∧ k < l.length) ∧ Hid (chainR l k0 = xs ++ chainR l z) ∧ Below w1.heap.size w1 wr ∧ OwnF (tInt .i64) wr w1.heap.size 3 v xs.length xs) (fun s _ _ => depZ l (intOf s))
    case atStart => exact ⟨_, [], rfl, Or.inr ⟨k0, rfl, hk0⟩, Lib.hid rfl, Below.refl _ _, OwnF.nil _ _ _⟩
    case round =>
      obtain ⟨z, xs, rfl, hz, HC, hb, hown⟩ := hrel
      have hzs := hb.size
      rcases hz with rfl | ⟨k, rfl, hk⟩
      · have HR := Lib.hid (show chainR l k0 = xs from by rw [HC.out, chain_end, List.append_nil])
        have hne : 0 < xs.length := by
          rw [← HR.out, HT.out.chain_step hk0, List.length_cons]
          omega
        have hx41 : xs.length ≤ 41 := by rw [← HR.out]; exact hcl
        obtain ⟨A, cc, rfl⟩ := Own.form hown
        obtain ⟨gg, cells, rfl, hgg, hgl, hrow, hcell, hfz⟩ := Own.block hown hne
        obtain ⟨tp, htp⟩ := get_some (l := xs) (k := xs.length - 1) (by omega)
        have hte : topR l k0 = tp := by
          unfold topR
          rw [HR.out, List.headD_eq_head?_getD, List.head?_reverse, List.getLast?_eq_getElem?, htp]
          rfl
        have ct : wr.cell? ⟨gg, xs.length - 1, none⟩ = some (.int .i64 tp) := by
          obtain ⟨cs, ⟨rfl, _⟩, hj2⟩ := hrow.at_ htp
          have h3 := hj2 0 _ rfl
          exact hcell _ _ (by simpa [tInt] using h3)
        have wz : IntKind.i64.wrap ((xs.length : Int) - 1) = (xs.length : Int) - 1 := IntWalk.i64_in _ (by omega)
        have nz : ((xs.length : Int) - 1).toNat = xs.length - 1 := by omega
        have j1 : (0 : Int) ≤ (xs.length : Int) - 1 := by omega
        have j2 : (xs.length : Int) - 1 < (xs.length : Int) := by omega
        have HTE := Lib.hid hte
        have HB := Lib.hid (HB1.out.trans (hb.mono hz1))
        have HBR := Lib.hid hb
        have HREV := Lib.hid (fun k => own_rev (k := k) hown)
        have HRV := Lib.hid (fun W (h : W = wr) => Tryd.slices_Reverse_int_cells gg 0 xs.length cc xs W (Nat.le_refl _) (by omega) (fun j hj => by
          obtain ⟨x, hx⟩ := get_some hj
          obtain ⟨cs, ⟨rfl, _⟩, hj2⟩ := hrow.at_ hx
          have h3 := hj2 0 _ rfl
          rw [h, Nat.zero_add, hcell j (.int .i64 x) (by simpa [tInt] using h3), List.getD, hx]
          rfl) (fun j _ => by rw [h, Nat.zero_add]; exact hfz j))
        clear hown hrow hcell hfz hb htp hte
        by_cases ht0 : tp = 0
        · subst ht0
          go_wp2_with (go_at_call 16; refine (HRV.out _ rfl).mono ?_; rintro e w2 ⟨rfl, kq, rfl⟩; rw [List.take_length])
          go_ret2
          rw [← List.map_reverse]
          exact ⟨HB.out.trans (((HREV.out kq).2 hgg).mono hz1), Or.inr (Or.inr ⟨HCE.out, HTE.out, _, rfl, by unfold pathL; rw [List.length_reverse, HR.out]; exact Own.down (HREV.out kq).1 hz1⟩)⟩
        · have ht1 : (tp != 0) = true := by simpa using ht0
          have HT0 := Lib.hid ht0
          clear ht0
          go_wp2_with fail
          go_ret2
          exact ⟨HB.out, Or.inr (Or.inl ⟨HCE.out, by rw [HTE.out]; exact HT0.out, rfl⟩)⟩
      · have hbxr := (hb.block _ (Array.getElem?_eq_some_iff.1 HBX1.out).1).trans HBX1.out
        have HCS := Lib.hid (show chainR l k0 = (xs ++ [(k : Int)]) ++ chainR l (parD l k) from by rw [HC.out, HT.out.chain_step hk, List.append_assoc]; rfl)
        have HDP := Lib.hid (HT.out.dep_par hk)
        have HPZ : Hid (parD l k = -1 ∨ ∃ p : Nat, parD l k = (p : Int) ∧ p < l.length) := by
          rcases HT.out.par hk with e | ⟨p, e, hp, _⟩
          · exact Or.inl e
          · exact Or.inr ⟨p, e, hp⟩
        have hx41 : xs.length ≤ 41 := by
          have := congrArg List.length HC.out
          rw [List.length_append] at this
          omega
        have i1 : (0 : Int) ≤ (k : Int) := by omega
        have i2 : (k : Int) < (n : Int) := by have := HN.out; omega
        have hkn : k < n := by have := HN.out; omega
        have hsm := HT.out.small
        have HTT : Hid (∀ W, Below w1.heap.size w1 W → W.cell? ⟨w.heap.size, 0, none⟩ = some (.slice (some ⟨b, o, none⟩) n c) ∧ W.cell? ⟨b, o + k * 6 + 4, none⟩ = some (.int .i64 (parD l k))) := fun W hW => by
          obtain ⟨nd, hnd⟩ := get_some (l := l) hk
          obtain ⟨Aa, na, ca, Ak, nk, ck, _, _, _, _, _, c4, _⟩ := (HD1.out.below hW hz1).at_ k nd hnd
          exact ⟨cell_blk ((hW.block _ (Array.getElem?_eq_some_iff.1 HBX1.out).1).trans HBX1.out) rfl, by rw [parD_at hnd]; exact c4⟩
        generalize parD l k = z at *
        clear hbxr
        go_upto_region 6 with (at_builtin; refine wpList_ap1 _ rfl (.tmp 22) (.tmp 24) 26 rfl elemI (v := u7) (D := fun _ => False) rfl (OwnF.al hown _) (fun _ h => h.elim) (y := (k : Int)) (cs := [.int .i64 (k : Int)]) rfl ⟨rfl, WalkArith.wf_i64 (by omega)⟩ (cell_new wr _ _) (by omega) (by omega) (by rw [World.size_alloc]; omega) ?_; intro v9 w9 hown9 _ hbl9 _)
        have hb9 : Below w1.heap.size wr w9 := ((Below.refl _ _).alloc hzs _).trans hbl9
        obtain ⟨bx9, c9⟩ := HTT.out w9 (hb.trans hb9)
        have HB9 := Lib.hid (hb.trans hb9)
        clear hbl9 hb9
        go_wp2_with fail
        go_roundw
        case rel => exact ⟨z, xs ++ [(k : Int)], rfl, HPZ.out, HCS, HB9.out, by rw [List.length_append]; exact hown9⟩
        case measure => have := HDP.out; simp [intOf]; omega
  · have hce1 : (askS l m != 0) = true := by simpa using hce
    have HPO : Hid (∀ w', Below w.heap.size w w' → PPost w l m (.returned (.tuple #[.slice none 0 0, .int .i64 (askS l m)])) w') := fun w' h => ⟨h, Or.inl ⟨hce, rfl⟩⟩
    generalize askS l m = e0 at *
    clear hce
    go_wp2_with fail
    go_ret2
    exact HPO.out _ HB1.out
end Go.Proofs.YtomleengbnfikaaDoor
