/-
The walks of below and touched: the nodes that an edit touches.
-/
import Derived.Test.YtomleengbnfikaaGreatDoorIdxKeptLaw
import Derived.Test.YtomleengbnfikaaGreatDoorEdDocs
namespace Go.Proofs.YtomleengbnfikaaGreatDoor
open Go.RowKit Go.Cl
attribute [local go_sem ↓] Go.wp_at_zero Go.wp_at_succ

theorem own_one {w : World} {x : Int} (hx : (Lit.int .i64 x).wf = true) : OwnF (tInt .i64) (w.alloc (.cells #[.int .i64 x] 3)) w.heap.size 3 (.slice (some ⟨w.heap.size, 0, none⟩) 1 1) 1 [x] :=
  ⟨[.int .i64 x], ⟨rfl, .inr ⟨w.heap.size, 1, _, rfl, Nat.le_refl _, heap_alloc_new w _, Nat.le_refl _, by decide, rfl, rfl⟩⟩, ⟨[_], [], rfl, ⟨rfl, hx⟩, rfl⟩⟩
/-- A list of nodes in a block of the call's own. -/
def NsPost (w : World) (xs : List Int) (e : Ending) (w' : World) : Prop := Below w.heap.size w w' ∧ ∃ v, e = .returned v ∧ OwnF (tInt .i64) w' w.heap.size 3 v xs.length xs
theorem wf_small {m : Nat} (h : m ≤ 1000000) : (Lit.int .i64 (m : Int)).wf = true := WalkArith.wf_i64 (by omega)
theorem Tree.pre_long {l : List Nd} (T : Tree l) {m : Nat} (hm : m < l.length) (j : Nat) : ((m : Int) :: ((kidsD l m).take j).flatMap (preR l)).length ≤ 200 := by
  have h1 := T.pre_few hm
  have h2 := T.small
  rw [T.pre_step hm] at h1
  have h3 : ((kidsD l m).flatMap (preR l)).length = (((kidsD l m).take j).flatMap (preR l)).length + (((kidsD l m).drop j).flatMap (preR l)).length := by
    conv => lhs; rw [← List.take_append_drop j (kidsD l m)]
    rw [List.flatMap_append, List.length_append]
  rw [List.length_cons] at h1 ⊢
  omega
set_option maxRecDepth 100000 in
set_option maxHeartbeats 4000000 in
theorem belowN_any (A : Option Addr) (n c : Nat) (l : List Nd) (q : Bool) (T : Tree l) (B : Nat) (f : Nat) : ∀ (m : Nat) (w : World), Sl tNd w (lt B) A n c l → B ≤ w.heap.size → m < l.length → upN l m + f = 41 →
    Calls Tryz.prog 30 #[.agg #[.slice A n c, .bool q], .int .i64 (m : Int)] w (NsPost w (preR l m)) := by
  induction f with
  | zero =>
    intro m w _ _ hm hf
    have := (T.deep m hm).1
    omega
  | succ f ih =>
    intro m w hl hB hm hf
    obtain ⟨w0, hw0⟩ : ∃ w0, w0 = w.alloc (.cells #[.slice A n c, .bool q] 24) := ⟨_, rfl⟩
    have hb0 : Below w.heap.size w w0 := by rw [hw0]; exact (Below.refl _ _).alloc (Nat.le_refl _) _
    have hx0 : w0.heap[w.heap.size]? = some (.cells #[.slice A n c, .bool q] 24 (0, 0)) := by rw [hw0]; exact heap_alloc_new w _
    have IH := Lib.hid ih
    have HUP : Hid (∀ k ∈ kidsD l m, ∃ p : Nat, k = (p : Int) ∧ p < l.length ∧ upN l p + f = 41) := fun k hk => by
      obtain ⟨p, e, hp, hpar⟩ := T.kid hm hk
      exact ⟨p, e, hp, by have := (T.up_par hp hpar).2; omega⟩
    have HPS := Lib.hid (T.pre_step hm)
    have HPL := Lib.hid (fun j => T.pre_long hm j)
    have HTF := Lib.hid (fun p hp => T.pre_few (m := p) hp)
    have HTS := Lib.hid T.small
    have hwf : (Lit.int .i64 (m : Int)).wf = true := wf_small (by have := T.small; omega)
    have HWF := Lib.hid hwf
    have HN := Lib.hid hl.hn
    have HL := Lib.hid (hl.below hb0 hB)
    have HBW : Hid (B ≤ w0.heap.size) := Nat.le_trans hB hb0.size
    have HB0 := Lib.hid hb0
    have HX0 := Lib.hid hx0
    obtain ⟨x, hx⟩ := get_some hm
    have HX := Lib.hid hx
    have HKD := Lib.hid (kidsD_at hx)
    obtain ⟨b, o, rfl, hd⟩ := doc_at HL.out (by have := hl.hn; omega)
    have HD := Lib.hid hd
    have y0 := cell_blk (i := 0) hx0 rfl
    have y1 := cell_blk (i := 1) hx0 rfl
    have HNO := Lib.hid (own_one (w := w0) hwf)
    obtain ⟨Aa, na, ca, Ak, nk, ck, hnat, d0, d1, d2, d3, d4, d5'⟩ := HD.out.at_ m x hx
    have d5 := cell_al d5' (.cells #[.int .i64 (m : Int)] 3)
    obtain rfl : nk = x.kids.length := hnat.kids.hn
    have HKS := Lib.hid hnat.kids
    have hck := hnat.kids.hc
    have hks := hnat.kids.small
    have i1 : (0 : Int) ≤ (m : Int) := by omega
    have i2 : (m : Int) < (n : Int) := by have := hl.hn; omega
    rw [HKD.out] at HUP HPS HPL
    clear ih hl hB hm hf hb0 hx0 hx hd hnat hwf d0 d1 d2 d3 d4 d5' T
    go_enter Tryz.func30, Tryz.ntmps30
    go_upto_region 1 with fail
    rw [← hw0]
    clear hw0
    have z0 := cell_al y0 (.cells #[.int .i64 (m : Int)] 3)
    have z1 := cell_al y1 (.cells #[.int .i64 (m : Int)] 3)
    go_wp2_with fail
    go_loopw [5, 17] (fun s t wr => ∃ j : Nat, j ≤ x.kids.length ∧ t = .int .i64 (j : Int) ∧ Below w0.heap.size w0 wr ∧ Hid (OwnF (tInt .i64) wr w0.heap.size 3 s ((m : Int) :: (x.kids.take j).flatMap (preR l)).length ((m : Int) :: (x.kids.take j).flatMap (preR l)))) (fun _ t _ => x.kids.length - (intOf t).toNat)
    case atStart => exact ⟨0, Nat.zero_le _, rfl, (Below.refl _ _).alloc (Nat.le_refl _) _, HNO⟩
    case round =>
      obtain ⟨j, hj, rfl, hb, HO⟩ := hrel
      by_cases hlt : j < x.kids.length
      · obtain ⟨k, hk⟩ := get_some hlt
        obtain ⟨kk, rfl, hkl2, hup⟩ := HUP.out k (List.mem_of_getElem? hk)
        obtain ⟨b2, o2, rfl, _, c1⟩ := sl_int (HKS.out.below hb HBW.out) hk
        have hxr := (hb.block w.heap.size (Array.getElem?_eq_some_iff.1 HX0.out).1).trans HX0.out
        have z0 := cell_blk (i := 0) hxr rfl
        have z1 := cell_blk (i := 1) hxr rfl
        have HI := Lib.hid (IH.out kk wr (HL.out.below hb HBW.out) (Nat.le_trans HBW.out hb.size) hkl2 hup)
        have hlong := HPL.out (j + 1)
        have HSN := Lib.hid (show (m : Int) :: (x.kids.take (j + 1)).flatMap (preR l) = ((m : Int) :: (x.kids.take j).flatMap (preR l)) ++ preR l kk from by rw [take_snoc hk, List.flatMap_append, List.flatMap_singleton]; rfl)
        rw [HSN.out, List.length_append] at hlong
        have j1 : (0 : Int) ≤ (j : Int) := by omega
        have j2 : (j : Int) < (x.kids.length : Int) := by omega
        have HB := Lib.hid hb
        have HLO := Lib.hid hlong
        obtain ⟨acc, hacc⟩ : ∃ acc, (m : Int) :: (x.kids.take j).flatMap (preR l) = acc := ⟨_, rfl⟩
        rw [hacc] at HO HSN HLO hlong
        clear hk hkl2 hup hxr hacc hb
        go_wp2_with (first
          | (go_at_call 30; refine HI.out.mono ?_; rintro e w1 ⟨hb1, v1, rfl, hown1⟩; obtain ⟨A1, c1', rfl, hsl1⟩ := OwnF.sl hown1 (by decide) (by show (preR l kk).length * 8 ≤ _; omega); have HO1 := Lib.hid (OwnF.below HO.out hb1 (Nat.le_refl _)); have HS1 := Lib.hid hsl1; have HB1 := Lib.hid (HB.out.trans (hb1.mono HB.out.size)); clear hown1 hsl1)
          | (at_builtin; refine wpList_apf _ (flatInt _) rfl (.tmp 21) (.tmp 24) 37 rfl elemI rfl HO1.out rfl HS1.out (by omega) (by omega) HB1.out.size ?_; intro v3 w3 hown3 hgr3 hbl3 _))
        have HO3 := Lib.hid hown3
        have HB3 := Lib.hid (HB1.out.trans (hbl3.mono (Nat.le_refl _)))
        go_roundw
        case rel =>
          refine ⟨j + 1, by omega, by go_num, HB3.out, ?_⟩
          show OwnF _ _ _ _ _ _ _
          rw [HSN.out, List.length_append]
          exact HO3.out
        case measure => simp [intOf]; omega
      · obtain rfl : j = x.kids.length := by omega
        go_wp2_with fail
        go_ret
        have h1 := HO.out
        rw [List.take_length, ← HPS.out] at h1
        exact ⟨HB0.out.trans (hb.mono HB0.out.size), _, rfl, h1.down HB0.out.size⟩
end Go.Proofs.YtomleengbnfikaaGreatDoor
