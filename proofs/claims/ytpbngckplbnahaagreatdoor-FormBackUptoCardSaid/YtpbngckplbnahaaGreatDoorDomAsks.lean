/-
The walks of package dom: ask.
-/
import Derived.Test.YtpbngckplbnahaaGreatDoorTreeB
namespace Go.Proofs.YtpbngckplbnahaaGreatDoor
open Go.RowKit Go.Cl
attribute [local go_sem ↓] Go.wp_at_zero Go.wp_at_succ

/-- What ask says. -/
def askS (l : List Nd) (m : Int) : Int := if checkD l ≠ 0 then checkD l else if m < 0 ∨ (l.length : Int) ≤ m then 1 else 0
set_option maxRecDepth 100000 in
set_option maxHeartbeats 4000000 in
theorem ask_any (A : Option Addr) (n c : Nat) (l : List Nd) (q : Bool) (m : Int) (w : World) (B : Nat) (hl : Sl tNd w (lt B) A n c l) (hB : B ≤ w.heap.size) :
    Calls Tryz.prog 55 #[.agg #[.slice A n c, .bool q], .int .i64 m] w fun e w' => e = .returned (.int .i64 (askS l m)) ∧ Below w.heap.size w w' := by
  obtain ⟨w0, hw0⟩ : ∃ w0, w0 = w.alloc (.cells #[.slice A n c, .bool q] 29) := ⟨_, rfl⟩
  have hbx : w0.heap[w.heap.size]? = some (.cells #[.slice A n c, .bool q] 29 (0, 0)) := by rw [hw0]; exact heap_alloc_new w _
  have b0 : w0.cell? ⟨w.heap.size, 0, none⟩ = some (.slice A n c) := cell_blk hbx rfl
  have b1 : w0.cell? ⟨w.heap.size, 1, none⟩ = some (.bool q) := cell_blk hbx rfl
  have hb0 : Below w.heap.size w w0 := by rw [hw0]; exact (Below.refl _ _).alloc (Nat.le_refl _) _
  have HB0 := Lib.hid hb0
  have HBX := Lib.hid hbx
  have HN := Lib.hid hl.hn
  have HCH := Lib.hid (check_dom A n c l q w0 B (hl.below hb0 hB) (Nat.le_trans hB hb0.size))
  clear hb0 hbx hl
  go_enter Tryz.func55, Tryz.ntmps55
  go_upto_region 1 with fail
  rw [← hw0]
  clear hw0
  go_upto_region 2 with (go_at_call 52; refine HCH.out.mono ?_; rintro e w1 ⟨rfl, hb1⟩)
  have HB1 := Lib.hid (HB0.out.trans (hb1.mono HB0.out.size))
  have hbx1 := (hb1.block _ (Array.getElem?_eq_some_iff.1 HBX.out).1).trans HBX.out
  have y0 : w1.cell? ⟨w.heap.size, 0, none⟩ = some (.slice A n c) := cell_blk hbx1 rfl
  have y1 : w1.cell? ⟨w.heap.size, 1, none⟩ = some (.bool q) := cell_blk hbx1 rfl
  clear hb1 hbx1 b0 b1
  by_cases hce : checkD l = 0
  · by_cases hm : m < 0
    · have HR := Lib.hid (show askS l m = 1 from by unfold askS; rw [if_neg (by rw [hce]; simp), if_pos (Or.inl hm)])
      rw [hce]
      go_wp2_with fail
      go_ret
      exact ⟨by rw [HR.out]; rfl, HB1.out⟩
    · by_cases hm2 : (n : Int) ≤ m
      · have HR := Lib.hid (show askS l m = 1 from by unfold askS; rw [if_neg (by rw [hce]; simp), if_pos (Or.inr (by have := HN.out; omega))])
        rw [hce]
        go_wp2_with fail
        go_ret
        exact ⟨by rw [HR.out]; rfl, HB1.out⟩
      · have HR := Lib.hid (show askS l m = 0 from by unfold askS; rw [if_neg (by rw [hce]; simp), if_neg (by have := HN.out; omega)])
        rw [hce]
        go_wp2_with fail
        go_ret
        exact ⟨by rw [HR.out]; rfl, HB1.out⟩
  · have HR := Lib.hid (show askS l m = checkD l from by unfold askS; rw [if_pos hce])
    have hce1 : (checkD l == 0) = false := by simpa using hce
    generalize checkD l = e0 at *
    clear hce
    go_wp2_with fail
    go_ret
    exact ⟨by rw [HR.out]; rfl, HB1.out⟩
end Go.Proofs.YtpbngckplbnahaaGreatDoor

/-
The walks of package dom: walk, Order.
-/
namespace Go.Proofs.YtpbngckplbnahaaGreatDoor
open Go.RowKit Go.Cl
attribute [local go_sem ↓] Go.wp_at_zero Go.wp_at_succ

/-- The boxes of documents lie as they lay. -/
structure Boxes (w w' : World) : Prop where
  same : ∀ (k : Nat) (cs : Array Value) (fr : Nat × Nat), w.heap[k]? = some (.cells cs 29 fr) → w'.heap[k]? = some (.cells cs 29 fr)
theorem Boxes.refl (w : World) : Boxes w w := ⟨fun _ _ _ h => h⟩
theorem Boxes.trans {a b c : World} (h : Boxes a b) (k : Boxes b c) : Boxes a c := ⟨fun i cs fr hi => k.same i cs fr (h.same i cs fr hi)⟩
theorem Boxes.alloc (w : World) (o : Obj) : Boxes w (w.alloc o) := ⟨fun k _ _ hk => (Lib.alloc_old w o k (Array.getElem?_eq_some_iff.1 hk).1).trans hk⟩
theorem Boxes.own {w w' : World} {B n : Nat} {v : Value} {xs : List Int} (h : OwnF (tInt .i64) w B 3 v n xs) (hg : w.grownBy w' v.ownBlock) : Boxes w w' := by
  obtain ⟨cells, h, _⟩ := h
  refine ⟨fun k cs fr hk => (hg.block k (Array.getElem?_eq_some_iff.1 hk).1 ?_).trans hk⟩
  rcases h.2 with ⟨rfl, _⟩ | ⟨g, cap, cur, rfl, _, hc, _⟩
  · simp [Value.ownBlock]
  · intro e
    simp only [Value.ownBlock, Option.some.injEq] at e
    subst e
    rw [hc] at hk
    cases hk

theorem fm_len {f : Int → List Int} {xs : List Int} {j : Nat} {x : Int} (hx : xs[j]? = some x) : ((xs.take j).flatMap f).length + (f x).length ≤ (xs.flatMap f).length := by
  have hj := (List.getElem?_eq_some_iff.1 hx)
  have e : xs.flatMap f = (xs.take j).flatMap f ++ (f x ++ (xs.drop (j + 1)).flatMap f) := by
    conv => lhs; rw [← List.take_append_drop j xs, List.drop_eq_getElem_cons hj.1, hj.2]
    rw [List.flatMap_append, List.flatMap_cons]
  rw [e, List.length_append, List.length_append]
  omega
theorem fm_take {f : Int → List Int} {xs : List Int} {j : Nat} {x : Int} (hx : xs[j]? = some x) : (xs.take (j + 1)).flatMap f = (xs.take j).flatMap f ++ f x := by
  rw [List.take_add_one, hx, List.flatMap_append]
  simp

set_option maxRecDepth 100000 in
set_option maxHeartbeats 4000000 in
theorem pre_any (l : List Nd) (T : Tree l) (b o n c : Nat) (q : Bool) (_ : n ≤ c) (f : Nat) : ∀ (m : Nat) (xs : List Int) (v : Value) (w : World) (base : Nat), m < l.length → upN l m + f = 41 → OwnF (tInt .i64) w base 3 v xs.length xs → DocAt w base b o n l → base ≤ w.heap.size → xs.length + (preR l m).length ≤ 200 →
    Calls Tryz.prog 107 #[.agg #[.slice (some ⟨b, o, none⟩) n c, .bool q], .int .i64 (m : Int), v] w fun e w' => ∃ v', e = .returned v' ∧ OwnF (tInt .i64) w' base 3 v' (xs ++ preR l m).length (xs ++ preR l m) ∧ Below base w w' ∧ Boxes w w' := by
  induction f with
  | zero =>
    intro m xs v w base hm hf
    have := (T.deep m hm).1
    omega
  | succ f ih =>
    intro m xs v w base hm hf hown hd hB hlen
    have IH := Lib.hid ih
    have HPS := Lib.hid (T.pre_step hm)
    have HT := Lib.hid T
    have HLEN : Hid (xs.length + (((m : Int) :: (kidsD l m).flatMap (preR l)).length) ≤ 200) := by rw [← HPS.out]; exact hlen
    have HUP : Hid (∀ k ∈ kidsD l m, ∃ p : Nat, k = (p : Int) ∧ p < l.length ∧ upN l p + f = 41) := fun k hk => by
      obtain ⟨p, e, hp, hpar⟩ := T.kid hm hk
      exact ⟨p, e, hp, by have := (T.up_par hp hpar).2; omega⟩
    clear ih T
    obtain ⟨A2, c2, rfl⟩ := Own.form hown
    have HN := Lib.hid hd.hn
    have hx200 : xs.length ≤ 199 := by have := HLEN.out; rw [List.length_cons] at this; omega
    obtain ⟨w0, hw0⟩ : ∃ w0, w0 = w.alloc (.cells #[.slice (some ⟨b, o, none⟩) n c, .bool q] 29) := ⟨_, rfl⟩
    have hbx : w0.heap[w.heap.size]? = some (.cells #[.slice (some ⟨b, o, none⟩) n c, .bool q] 29 (0, 0)) := by rw [hw0]; exact heap_alloc_new w _
    have b0 : w0.cell? ⟨w.heap.size, 0, none⟩ = some (.slice (some ⟨b, o, none⟩) n c) := cell_blk hbx rfl
    have b1 : w0.cell? ⟨w.heap.size, 1, none⟩ = some (.bool q) := cell_blk hbx rfl
    have hb0 : Below base w w0 := by rw [hw0]; exact (Below.refl _ _).alloc hB _
    have hk0 : Boxes w w0 := by rw [hw0]; exact Boxes.alloc w _
    have ho0 : OwnF (tInt .i64) w0 base 3 (.slice A2 xs.length c2) xs.length xs := by rw [hw0]; exact OwnF.al hown _
    have HB0 := Lib.hid hb0
    have HK0 := Lib.hid hk0
    have HBX := Lib.hid hbx
    have HD0 := Lib.hid (hd.below hb0 (Nat.le_refl _))
    have hz0 : base ≤ w0.heap.size := Nat.le_trans hB hb0.size
    have HF : Hid (Lit.wf (.int .i64 (m : Int)) = true) := WalkArith.wf_i64 (by have := HT.out.small; omega)
    have hm200 : m < n := by have := HN.out; omega
    have hn200 : n ≤ 200 := by have := HN.out; have := HT.out.small; omega
    clear hb0 hk0 hbx hown hd hlen
    go_enter Tryz.func107, Tryz.ntmps107
    go_upto_region 1 with fail
    rw [← hw0]
    clear hw0
    go_upto_region 2 with (at_builtin; refine wpList_ap1 _ rfl (.tmp 9) (.tmp 11) 23 rfl elemI (v := .slice A2 xs.length c2) (D := fun _ => False) rfl (OwnF.al ho0 _) (fun _ h => h.elim) (y := (m : Int)) (cs := [.int .i64 (m : Int)]) rfl ⟨rfl, HF.out⟩ (cell_new w0 _ _) (by omega) (by omega) (by rw [World.size_alloc]; omega) ?_; intro v1 w1 hown1 hg1 hbl1 _)
    have hk1 : Boxes w0 w1 := (Boxes.alloc w0 _).trans (Boxes.own (OwnF.al ho0 _) hg1)
    have hb1 : Below base w0 w1 := ((Below.refl _ _).alloc hz0 _).trans hbl1
    have HK1 := Lib.hid (HK0.out.trans hk1)
    have HB1 := Lib.hid (HB0.out.trans hb1)
    have HBX1 := Lib.hid (hk1.same _ _ _ HBX.out)
    have y0 : w1.cell? ⟨w.heap.size, 0, none⟩ = some (.slice (some ⟨b, o, none⟩) n c) := cell_blk HBX1.out rfl
    have y1 : w1.cell? ⟨w.heap.size, 1, none⟩ = some (.bool q) := cell_blk HBX1.out rfl
    have HD1 := Lib.hid (HD0.out.below hb1 (Nat.le_refl _))
    have hz1 : base ≤ w1.heap.size := Nat.le_trans hz0 hb1.size
    obtain ⟨nd, hnd⟩ := get_some (l := l) hm
    obtain ⟨Aa, na, ca, Ak, nk, ck, hnat, _, _, _, _, _, c5⟩ := HD1.out.at_ m nd hnd
    have hks := hnat.kids
    rw [← kidsD_at hnd] at hks
    have hnk := hks.small
    have HKN := Lib.hid hks.hn
    have hck := hks.hc
    have HKS := Lib.hid hks
    have i1 : (0 : Int) ≤ (m : Int) := by omega
    have i2 : (m : Int) < (n : Int) := by omega
    have HO1 : Hid (OwnF (tInt .i64) w1 base 3 v1 (xs ++ [(m : Int)]).length (xs ++ [(m : Int)])) := by
      rw [List.length_append]
      exact hown1
    clear hown1 hg1 hbl1 hk1 hb1 hnat hks ho0 b0 b1 hnd
    generalize kidsD l m = ks at *
    go_wp2_with fail
    go_loopw [20, 2] (fun s u wr => ∃ (j : Nat) (ys : List Int), j ≤ nk ∧ s = .int .i64 (j : Int) ∧ Below base w1 wr ∧ Boxes w1 wr ∧ OwnF (tInt .i64) wr base 3 u ys.length ys ∧ Hid (ys = xs ++ (m : Int) :: (ks.take j).flatMap (preR l))) (fun s _ _ => nk - (intOf s).toNat)
    case atStart => exact ⟨0, _, Nat.zero_le _, rfl, Below.refl _ _, Boxes.refl _, HO1.out, Lib.hid rfl⟩
    case round =>
      obtain ⟨j, ys, hj, rfl, hb, hk, hown, HY⟩ := hrel
      have HBR := Lib.hid hb
      have HKR := Lib.hid hk
      obtain ⟨A3, c3, rfl⟩ := Own.form hown
      by_cases hlt : j < nk
      · obtain ⟨x, hx⟩ : ∃ x, ks[j]? = some x := get_some (by have := HKN.out; omega)
        obtain ⟨k, rfl, hkl, hup⟩ := HUP.out x (List.mem_of_getElem? hx)
        obtain ⟨gk, ok, rfl, _, cx, _⟩ := (HKS.out.below hb (Nat.le_refl _)).int hx
        have hyl : ys.length + (preR l (k : Int)).length ≤ 200 := by
          have h1 := HLEN.out
          have h2 := fm_len (f := preR l) hx
          have h3 := congrArg List.length HY.out
          rw [List.length_append, List.length_cons] at h3
          rw [List.length_cons] at h1
          omega
        have HC := Lib.hid (IH.out k ys _ wr base hkl hup hown (HD1.out.below hb (Nat.le_refl _)) (Nat.le_trans hz1 hb.size) hyl)
        have HY2 : Hid (ys ++ preR l (k : Int) = xs ++ (m : Int) :: (ks.take (j + 1)).flatMap (preR l)) := by
          show _ = _
          rw [fm_take hx, show ys = _ from HY.out, List.append_assoc]
          rfl
        have hbx2 := HKR.out.same _ _ _ HBX1.out
        have z0 : wr.cell? ⟨w.heap.size, 0, none⟩ = some (.slice (some ⟨b, o, none⟩) n c) := cell_blk hbx2 rfl
        have z1 : wr.cell? ⟨w.heap.size, 1, none⟩ = some (.bool q) := cell_blk hbx2 rfl
        clear hb hk hown hyl hx hbx2 hup
        generalize ys.length = ny at *
        go_wp2_with (go_at_call 107; refine HC.out.mono ?_; rintro e w2 ⟨v2, rfl, hown2, hb2, hk2⟩)
        go_roundw
        case rel => exact ⟨j + 1, _, by omega, by go_num, HBR.out.trans hb2, HKR.out.trans hk2, hown2, HY2⟩
        case measure => simp [intOf]; omega
      · have HYE : Hid (ys = xs ++ preR l m) := by
          show _ = _
          rw [show preR l m = _ from HPS.out, show ys = _ from HY.out, List.take_of_length_le (by have := HKN.out; omega)]
        go_wp2_with fail
        go_ret
        exact ⟨_, rfl, by rw [← show ys = _ from HYE.out]; exact hown, HB1.out.trans hb, HK1.out.trans hk⟩
/-- What Order hands back. -/
def OPost (w : World) (l : List Nd) (e : Ending) (w' : World) : Prop :=
  Below w.heap.size w w' ∧ ((checkD l ≠ 0 ∧ e = .returned (.tuple #[.slice none 0 0, .int .i64 (checkD l)])) ∨
    (checkD l = 0 ∧ ∃ v, e = .returned (.tuple #[v, .int .i64 0]) ∧ OwnF (tInt .i64) w' w.heap.size 3 v (preR l 0).length (preR l 0)))
set_option maxRecDepth 100000 in
set_option maxHeartbeats 4000000 in
theorem order_any (A : Option Addr) (n c : Nat) (l : List Nd) (q : Bool) (w : World) (B : Nat) (hl : Sl tNd w (lt B) A n c l) (hB : B ≤ w.heap.size) :
    Calls Tryz.prog 57 #[.agg #[.slice A n c, .bool q]] w (OPost w l) := by
  obtain ⟨w0, hw0⟩ : ∃ w0, w0 = w.alloc (.cells #[.slice A n c, .bool q] 29) := ⟨_, rfl⟩
  have hbx : w0.heap[w.heap.size]? = some (.cells #[.slice A n c, .bool q] 29 (0, 0)) := by rw [hw0]; exact heap_alloc_new w _
  have b0 : w0.cell? ⟨w.heap.size, 0, none⟩ = some (.slice A n c) := cell_blk hbx rfl
  have b1 : w0.cell? ⟨w.heap.size, 1, none⟩ = some (.bool q) := cell_blk hbx rfl
  have hb0 : Below w.heap.size w w0 := by rw [hw0]; exact (Below.refl _ _).alloc (Nat.le_refl _) _
  have HB0 := Lib.hid hb0
  have HBX := Lib.hid hbx
  have HL := Lib.hid hl
  have HCH := Lib.hid (check_dom A n c l q w0 B (hl.below hb0 hB) (Nat.le_trans hB hb0.size))
  clear hb0 hbx hl
  go_enter Tryz.func57, Tryz.ntmps57
  go_upto_region 1 with fail
  rw [← hw0]
  clear hw0
  by_cases hce : checkD l = 0
  · rw [hce] at HCH
    have ht := tree_of hce
    have hpos := ht.pos
    have HTR := Lib.hid ht
    have hn0 : 0 < n := by have := HL.out.hn; omega
    obtain ⟨b, o, rfl, hd⟩ := doc_at HL.out hn0
    have HD := Lib.hid hd
    have hcap := HL.out.hc
    have HCE := Lib.hid hce
    clear hce hd ht hpos
    go_upto_region 4 with (go_at_call 52; refine HCH.out.mono ?_; rintro e w1 ⟨rfl, hb1⟩)
    have HB1 := Lib.hid (HB0.out.trans (hb1.mono HB0.out.size))
    have hbx1 : w1.heap[w.heap.size]? = some (.cells #[.slice (some ⟨b, o, none⟩) n c, .bool q] 29 (0, 0)) := (hb1.block _ (Array.getElem?_eq_some_iff.1 HBX.out).1).trans HBX.out
    have y0 : w1.cell? ⟨w.heap.size, 0, none⟩ = some (.slice (some ⟨b, o, none⟩) n c) := cell_blk hbx1 rfl
    have y1 : w1.cell? ⟨w.heap.size, 1, none⟩ = some (.bool q) := cell_blk hbx1 rfl
    have HP : Hid (Calls Tryz.prog 107 #[.agg #[.slice (some ⟨b, o, none⟩) n c, .bool q], .int .i64 0, .slice none 0 0] w1 fun e w' => ∃ v', e = .returned v' ∧ OwnF (tInt .i64) w' w.heap.size 3 v' (preR l 0).length (preR l 0) ∧ Below w.heap.size w1 w' ∧ Boxes w1 w') :=
      pre_any l HTR.out b o n c q hcap (41 - upN l (0 : Nat)) 0 [] (.slice none 0 0) w1 w.heap.size HTR.out.pos (by have := (HTR.out.deep 0 HTR.out.pos).1; omega) (OwnF.nil _ _ _) ((HD.out.below HB1.out hB).more hB) HB1.out.size (by show 0 + (preR l 0).length ≤ 200; have := HTR.out.all_few; omega)
    clear hb1 hbx1 b0 b1
    go_wp2_with (go_at_call 107; refine HP.out.mono ?_; rintro e w2 ⟨v2, rfl, hown2, hb2, _⟩)
    go_ret2
    exact ⟨HB1.out.trans hb2, Or.inr ⟨HCE.out, _, rfl, hown2⟩⟩
  · have hce1 : (checkD l != 0) = true := by simpa using hce
    have HCE := Lib.hid hce
    have HPO : Hid (∀ w', Below w.heap.size w w' → OPost w l (.returned (.tuple #[.slice none 0 0, .int .i64 (checkD l)])) w') := fun w' h => ⟨h, Or.inl ⟨HCE.out, rfl⟩⟩
    generalize checkD l = e0 at *
    clear hce
    go_wp2_with (go_at_call 52; refine HCH.out.mono ?_; rintro e w1 ⟨rfl, hb1⟩)
    go_ret2
    exact HPO.out _ (HB0.out.trans (hb1.mono HB0.out.size))
end Go.Proofs.YtpbngckplbnahaaGreatDoor

/-
The walks of package dom: Path.
-/
namespace Go.Proofs.YtpbngckplbnahaaGreatDoor
open Go.RowKit Go.Cl
attribute [local go_sem ↓] Go.wp_at_zero Go.wp_at_succ

/-- What Path hands back. -/
def PPost (w : World) (l : List Nd) (m : Int) (e : Ending) (w' : World) : Prop :=
  Below w.heap.size w w' ∧ ((askS l m ≠ 0 ∧ e = .returned (.tuple #[.slice none 0 0, .int .i64 (askS l m)])) ∨
    (askS l m = 0 ∧ topR l m ≠ 0 ∧ e = .returned (.tuple #[.slice none 0 0, .int .i64 5])) ∨
    (askS l m = 0 ∧ topR l m = 0 ∧ ∃ v, e = .returned (.tuple #[v, .int .i64 0]) ∧ OwnF (tInt .i64) w' w.heap.size 3 v (pathL l m).length (pathL l m)))
theorem ask_in {l : List Nd} {m : Int} (h : askS l m = 0) : checkD l = 0 ∧ ∃ k : Nat, m = (k : Int) ∧ k < l.length := by
  unfold askS at h
  by_cases h1 : checkD l = 0
  · rw [if_neg (by rw [h1]; simp)] at h
    by_cases h2 : m < 0 ∨ (l.length : Int) ≤ m
    · rw [if_pos h2] at h; cases h
    · exact ⟨h1, m.toNat, by omega, by omega⟩
  · rw [if_pos h1] at h; exact absurd h h1
end Go.Proofs.YtpbngckplbnahaaGreatDoor
