/-
The walk of DomStays.
-/
import Derived.Test.YtmemadajjmmlpaaDoorDomBegun
namespace Go.Proofs.YtmemadajjmmlpaaDoor
open Go.RowKit Go.Cl
attribute [local go_sem ↓] Go.wp_at_zero Go.wp_at_succ

/-- At the head of a round: the document as it stands. -/
def StR (w : World) (q : Bool) (wr : World) : Prop :=
  ∃ A n c l, Below w.heap.size w wr ∧ wr.heap[w.heap.size]? = some (.cells #[.slice A n c, .bool q] 24 (0, 0)) ∧ Sl tNd wr (lt wr.heap.size) A n c l ∧ Good l
/-- What Apply has told, in its variables. -/
def StX (wr : World) (q : Bool) (l : List Nd) (e : Edt) (v nv ev : Value) (wx : World) : Prop :=
  ∃ O, v = .pointer (some ⟨O, 0, none⟩) ∧ Below wr.heap.size wr wx ∧ wr.heap.size ≤ O ∧
    ((edErr l e ≠ 0 ∧ nv = .int .i64 0 ∧ ev = .int .i64 (edErr l e) ∧ wx.heap[O]? = some (.cells #[.slice none 0 0, .bool false] 24 (0, 0))) ∨
     (edErr l e = 0 ∧ nv = .int .i64 (edMade l 0 e) ∧ ev = .int .i64 0 ∧ ∃ A' c', wx.heap[O]? = some (.cells #[.slice A' (edDo l e).length c', .bool q] 24 (0, 0)) ∧ Sl tNd wx (rg wr.heap.size wx.heap.size) A' (edDo l e).length c' (edDo l e)))
theorem sl_al_rg {α : Type} {T : Ty α} {w : World} {a b : Nat} {A : Option Addr} {n c : Nat} {xs : List α} (h : Sl T w (rg a b) A n c xs) (hb : b ≤ w.heap.size) (o : Obj) : Sl T (w.alloc o) (rg a b) A n c xs := h.keep fun p hp => World.cell?_alloc_lt w o p (Nat.lt_of_lt_of_le hp.2 hb)
/-- How many nodes there are behind an edit, and what it has made. -/
theorem ed_made (l : List Nd) (e : Edt) : ((edDo l e).length = l.length + 1 ∧ edMade l 0 e = (l.length : Int)) ∨ ((edDo l e).length = l.length ∧ edMade l 0 e = 0) := by
  have h := (ed_stay l e).1
  unfold edMade
  by_cases h4 : e.do_ = 4
  · rw [if_pos h4] at h
    rw [if_pos h4]
    exact Or.inl ⟨h, rfl⟩
  · rw [if_neg h4] at h
    rw [if_neg h4]
    exact Or.inr ⟨h, rfl⟩
theorem ap_good {l : List Nd} (h : Good l) (e : Edt) : apErr l e = edErr l e := by unfold apErr; rw [if_neg (by rw [check_of h]; simp)]
set_option maxRecDepth 100000 in
set_option maxHeartbeats 8000000 in
theorem domStays_walk (A : Option Addr) (n c : Nat) (l : List Nd) (q : Bool) (A2 : Option Addr) (m c2 : Nat) (es : List Edt) (w : World) (B : Nat) (hl : Sl tNd w (lt B) A n c l) (hes : Sl tEdt w (lt B) A2 m c2 es) (hB : B ≤ w.heap.size) :
    Calls Tryd.prog 6 #[.agg #[.slice A n c, .bool q], .slice A2 m c2] w fun e w' => e = .returned (.bool true) ∧ Below w.heap.size w w' := by
  obtain ⟨w0, hw0⟩ : ∃ w0, w0 = w.alloc (.cells #[.slice A n c, .bool q] 24) := ⟨_, rfl⟩
  have hbx : w0.heap[w.heap.size]? = some (.cells #[.slice A n c, .bool q] 24 (0, 0)) := by rw [hw0]; exact heap_alloc_new w _
  have b0 : w0.cell? ⟨w.heap.size, 0, none⟩ = some (.slice A n c) := cell_blk hbx rfl
  have b1 : w0.cell? ⟨w.heap.size, 1, none⟩ = some (.bool q) := cell_blk hbx rfl
  have hb0 : Below w.heap.size w w0 := by rw [hw0]; exact (Below.refl _ _).alloc (Nat.le_refl _) _
  have hz0 : w0.heap.size = w.heap.size + 1 := by rw [hw0]; exact World.size_alloc w _
  have HB0 := Lib.hid hb0
  have HBX := Lib.hid hbx
  have HL := Lib.hid hl
  have HES := Lib.hid hes
  have HBW : Hid (B ≤ w.heap.size) := hB
  obtain ⟨k, hk, hkc, hkn⟩ : ∃ k : Nat, min (n : Int) 60 = (k : Int) ∧ k ≤ c ∧ k ≤ n := ⟨min n 60, by omega, by have := hl.hc; omega, by omega⟩
  obtain ⟨k2, hk2, hk2n, hk230⟩ : ∃ k2 : Nat, min (m : Int) 30 = (k2 : Int) ∧ k2 ≤ m ∧ k2 ≤ 30 := ⟨min m 30, by omega, by omega, by omega⟩
  have hmc := hes.hc
  have hm63 := hes.small
  have hk2c : k2 ≤ c2 := by omega
  have HF := Lib.hid (few_any A n c k q 60 w0.drew hk hkc)
  have HM0 : Hid (A2 = none → c2 = 0) := hes.nil_
  have HZ0 := Lib.hid hz0
  clear hb0 hl hes hB hk hz0
  go_enter Tryd.func6, Tryd.ntmps6
  go_upto_region 1 with fail
  rw [← hw0]
  clear hw0
  refine wp_region_G (S := fun w' : World => w'.cell? ⟨w.heap.size, 0, none⟩ = some (.slice A n c) ∧ w'.cell? ⟨w.heap.size, 1, none⟩ = some (.bool q)) (T := [7, 8]) (by kernel_rfl) ?_
  have hS : (fun w' : World => w'.cell? ⟨w.heap.size, 0, none⟩ = some (.slice A n c) ∧ w'.cell? ⟨w.heap.size, 1, none⟩ = some (.bool q)) w0.drew := ⟨b0, b1⟩
  refine wpAnyG_take (i := 0) (v := ?_) rfl (by kernel_rfl) (by kernel_rfl) (by kernel_rfl) (by kernel_rfl) (fun _ _ _ h => h) hS rfl ?_ ?_
  rotate_left
  · intro w' hSw
    (try dsimp only at hSw)
    first | (go_simp; done) | (go_simp; with_reducible rfl)
  refine wpAnyG_pure (i := 2) (v := ?_) rfl (by kernel_rfl) (by kernel_rfl) (by kernel_rfl) (fun _ _ _ h => h) rfl ?_ ?_
  rotate_left
  · intro w'
    first | (go_simp; done) | (go_simp; with_reducible rfl)
  refine wpAnyG_pure (i := 3) (v := ?_) rfl (by kernel_rfl) (by kernel_rfl) (by kernel_rfl) (fun _ _ _ h => h) rfl ?_ ?_
  rotate_left
  · intro w'
    first | (go_simp; done) | (go_simp; with_reducible rfl)
  refine wpAnyG_pure (i := 4) (v := ?_) rfl (by kernel_rfl) (by kernel_rfl) (by kernel_rfl) (fun _ _ _ h => h) rfl ?_ ?_
  rotate_left
  · intro w'
    first | (go_simp; done) | (go_simp; with_reducible rfl)
  refine wpAnyG_pure (i := 5) (v := ?_) rfl (by kernel_rfl) (by kernel_rfl) (by kernel_rfl) (fun _ _ _ h => h) rfl ?_ ?_
  rotate_left
  · intro w'
    first | (go_simp; done) | (go_simp; with_reducible rfl)
  refine wpAnyG_pure (i := 6) (v := ?_) rfl (by kernel_rfl) (by kernel_rfl) (by kernel_rfl) (fun _ _ _ h => h) rfl ?_ ?_
  rotate_left
  · intro w'
    first | (go_simp; done) | (go_simp; with_reducible rfl)
  refine wpAnyG_one (i := 1) (by kernel_rfl) rfl rfl (fun K hK => ?_)
  go_simp
  go_at_call 12
  refine HF.out.mono ?_
  rintro e w1 ⟨rfl, hb1⟩
  have hb01 : Below w0.heap.size w0 w1 := ((Below.refl _ w0).drew).trans hb1
  have hbx1 : w1.heap[w.heap.size]? = some (.cells #[.slice A n c, .bool q] 24 (0, 0)) := (hb01.block _ (by have := HZ0.out; omega)).trans hbx
  have y0 := cell_blk (i := 0) hbx1 rfl
  have y1 := cell_blk (i := 1) hbx1 rfl
  have z0 := free_blk (i := 0) hbx1
  have z1 := free_blk (i := 1) hbx1
  go_wp2_with fail
  refine hK.out _ _ (fun _ _ => ⟨y0, y1⟩) ?_
  clear hK K hS
  refine wpAnyG_one (i := 7) (by kernel_rfl) rfl rfl (fun K hK => ?_)
  go_simp
  refine hK.out _ _ (fun h => absurd (by decide) h) ?_
  clear hK K
  obtain ⟨w2, hw2⟩ : ∃ w2, w2 = (w1.setCell ⟨w.heap.size, 0, none⟩ (.slice A k c)).setCell ⟨w.heap.size, 1, none⟩ (.bool q) := ⟨_, rfl⟩
  rw [← hw2]
  have hb2 : Below w.heap.size w w2 := by rw [hw2]; exact ((HB0.out.trans (hb01.mono HB0.out.size)).setCell (Nat.le_refl _) _).setCell (Nat.le_refl _) _
  have hbx2 : w2.heap[w.heap.size]? = some (.cells #[.slice A k c, .bool q] 24 (0, 0)) := by rw [hw2]; exact set_blk (set_blk hbx1 _) _
  have HL2 := Lib.hid (((HL.out.cut_to hkn).below hb2 HBW.out).up (Nat.le_trans HBW.out hb2.size))
  have HES2 := Lib.hid (HES.out.cut_to hk2n)
  have HB2 := Lib.hid hb2
  have HX2 := Lib.hid hbx2
  have HDB := Lib.hid (fun u => domBegun_any u)
  have HSZ2 : Hid (w.heap.size < w2.heap.size) := (Array.getElem?_eq_some_iff.1 hbx2).1
  clear hw2 hb01 hbx1 y0 y1 z0 z1 hb1 hb2 hbx2 hbx b0 b1 HB0 HBX HL HES HF HZ0 HM0 hk2 hk2n hm63 hmc
  refine wpAnyG_one (i := 8) (by kernel_rfl) rfl rfl (fun K hK => ?_)
  go_simp
  refine hK.out _ _ (fun _ h => h) ?_
  clear hK K
  refine wpAnyG_done (by kernel_rfl) ?_ _
  generalize l.take k = l at *
  generalize es.take k2 = es at *
  have x0 := cell_blk (i := 0) HX2.out rfl
  have x1 := cell_blk (i := 1) HX2.out rfl
  have HCK := Lib.hid (check_dom A k c l q w2 w2.heap.size HL2.out (Nat.le_refl _))
  by_cases hck : checkD l = 0
  · have hgd := good_of hck
    rw [hck] at HCK
    go_upto_region 4 with (go_at_call 24; refine HCK.out.mono ?_; rintro e w3 ⟨rfl, hb3⟩)
    have H3 : Hid (StR w q w3) := ⟨A, k, c, l, HB2.out.trans (hb3.mono HB2.out.size), (hb3.block _ HSZ2.out).trans HX2.out, (HL2.out.below hb3 (Nat.le_refl _)).up hb3.size, hgd⟩
    have HN2 := Lib.hid HES2.out.hn
    clear hck hgd hb3 x0 x1 HCK HL2 HX2 HB2 HSZ2
    go_upto_region 5 with fail
    go_loopw [5] (fun s wr => ∃ k : Nat, k ≤ k2 ∧ s = .int .i64 (k : Int) ∧ Hid (StR w q wr)) (fun s _ => k2 - (intOf s).toNat)
    case atStart => exact ⟨0, Nat.zero_le _, rfl, H3⟩
    case round =>
      obtain ⟨k, hk, rfl, HR⟩ := hrel
      obtain ⟨A', n', c', l', hbr, hxr, hdr, hgd⟩ := HR.out
      by_cases hlt : k < k2
      · obtain ⟨e, he⟩ : ∃ e, es[k]? = some e := get_some (by have := HN2.out; omega)
        obtain ⟨b, o, Aa, na, ca, Ak, nk, ck, rfl, hbb, hok, hc⟩ := edt_get (HES2.out.below hbr HBW.out) he
        have f0 : wr.cell? ⟨b, o + k * 12, none⟩ = some (.int .i64 e.do_) := hc 0 _ rfl
        have f1 : wr.cell? ⟨b, o + k * 12 + 1, none⟩ = some (.int .i64 e.at_) := by rw [Nat.add_assoc]; exact hc 1 _ rfl
        have f2 : wr.cell? ⟨b, o + k * 12 + 2, none⟩ = some (.int .i64 e.to_) := by rw [Nat.add_assoc]; exact hc 2 _ rfl
        have f3 : wr.cell? ⟨b, o + k * 12 + 3, none⟩ = some (.int .i64 e.before) := by rw [Nat.add_assoc]; exact hc 3 _ rfl
        have f4 : wr.cell? ⟨b, o + k * 12 + 4, none⟩ = some (.string e.name) := by rw [Nat.add_assoc]; exact hc 4 _ rfl
        have f5 : wr.cell? ⟨b, o + k * 12 + 5, none⟩ = some (.string e.value) := by rw [Nat.add_assoc]; exact hc 5 _ rfl
        have f6 : wr.cell? ⟨b, o + k * 12 + 6, none⟩ = some (.int .i64 e.node.kind) := by rw [Nat.add_assoc]; exact hc 6 _ rfl
        have f7 : wr.cell? ⟨b, o + k * 12 + 7, none⟩ = some (.string e.node.name) := by rw [Nat.add_assoc]; exact hc 7 _ rfl
        have f8 : wr.cell? ⟨b, o + k * 12 + 8, none⟩ = some (.slice Aa na ca) := by rw [Nat.add_assoc]; exact hc 8 _ rfl
        have f9 : wr.cell? ⟨b, o + k * 12 + 9, none⟩ = some (.string e.node.text) := by rw [Nat.add_assoc]; exact hc 9 _ rfl
        have f10 : wr.cell? ⟨b, o + k * 12 + 10, none⟩ = some (.int .i64 e.node.parent) := by rw [Nat.add_assoc]; exact hc 10 _ rfl
        have f11 : wr.cell? ⟨b, o + k * 12 + 11, none⟩ = some (.slice Ak nk ck) := by rw [Nat.add_assoc]; exact hc 11 _ rfl
        have i1 : (0 : Int) ≤ (k : Int) := by omega
        have i2 : (k : Int) < (k2 : Int) := by omega
        have x0 := cell_blk (i := 0) hxr rfl
        have x1 := cell_blk (i := 1) hxr rfl
        have HBR := Lib.hid hbr
        have HXR := Lib.hid hxr
        have HDR := Lib.hid hdr
        have HGD := Lib.hid hgd
        have hBr : B ≤ wr.heap.size := Nat.le_trans HBW.out hbr.size
        have hDr : w.heap.size < wr.heap.size := (Array.getElem?_eq_some_iff.1 hxr).1
        have hbw : b < wr.heap.size := Nat.lt_of_lt_of_le hbb hBr
        have HAP := Lib.hid (fun W (hb : Below wr.heap.size wr W) => apply_any A' n' c' l' q e Aa na ca Ak nk ck W wr.heap.size (hdr.below hb (Nat.le_refl _)) hb.size ⟨(hok.node.below hb hBr).up hBr, hok.at_, hok.to_, hok.before, hok.name, hok.value⟩)
        have HAE := Lib.hid (ap_good hgd e)
        have HNE1 : Hid (wr.heap.size ≠ w.heap.size ∧ wr.heap.size ≠ b) := ⟨by omega, by omega⟩
        have HDB2 := Lib.hid hDr
        unfold edtCells at HAP
        clear hbr hxr hdr hgd hok hc HR he hBr hDr hbw hbb
        go_upto_region 7 with fail
        go_cut [6, 7, 8] (fun v nv ev wx => StX wr q l' e v nv ev wx)
        case first =>
          refine wp_region_G (S := (fun w' : World => w'.cell? ⟨w.heap.size, 0, none⟩ = some (.slice A' n' c') ∧ w'.cell? ⟨w.heap.size, 1, none⟩ = some (.bool q) ∧ w'.cell? ⟨b, o + k * 12, none⟩ = some (.int .i64 e.do_) ∧ w'.cell? ⟨b, o + k * 12 + 1, none⟩ = some (.int .i64 e.at_) ∧ w'.cell? ⟨b, o + k * 12 + 2, none⟩ = some (.int .i64 e.to_) ∧ w'.cell? ⟨b, o + k * 12 + 3, none⟩ = some (.int .i64 e.before) ∧ w'.cell? ⟨b, o + k * 12 + 4, none⟩ = some (.string e.name) ∧ w'.cell? ⟨b, o + k * 12 + 5, none⟩ = some (.string e.value) ∧ w'.cell? ⟨b, o + k * 12 + 6, none⟩ = some (.int .i64 e.node.kind) ∧ w'.cell? ⟨b, o + k * 12 + 7, none⟩ = some (.string e.node.name) ∧ w'.cell? ⟨b, o + k * 12 + 8, none⟩ = some (.slice Aa na ca) ∧ w'.cell? ⟨b, o + k * 12 + 9, none⟩ = some (.string e.node.text) ∧ w'.cell? ⟨b, o + k * 12 + 10, none⟩ = some (.int .i64 e.node.parent) ∧ w'.cell? ⟨b, o + k * 12 + 11, none⟩ = some (.slice Ak nk ck))) (T := [11, 12, 13]) (by kernel_rfl) ?_
          have hS : (fun w' : World => w'.cell? ⟨w.heap.size, 0, none⟩ = some (.slice A' n' c') ∧ w'.cell? ⟨w.heap.size, 1, none⟩ = some (.bool q) ∧ w'.cell? ⟨b, o + k * 12, none⟩ = some (.int .i64 e.do_) ∧ w'.cell? ⟨b, o + k * 12 + 1, none⟩ = some (.int .i64 e.at_) ∧ w'.cell? ⟨b, o + k * 12 + 2, none⟩ = some (.int .i64 e.to_) ∧ w'.cell? ⟨b, o + k * 12 + 3, none⟩ = some (.int .i64 e.before) ∧ w'.cell? ⟨b, o + k * 12 + 4, none⟩ = some (.string e.name) ∧ w'.cell? ⟨b, o + k * 12 + 5, none⟩ = some (.string e.value) ∧ w'.cell? ⟨b, o + k * 12 + 6, none⟩ = some (.int .i64 e.node.kind) ∧ w'.cell? ⟨b, o + k * 12 + 7, none⟩ = some (.string e.node.name) ∧ w'.cell? ⟨b, o + k * 12 + 8, none⟩ = some (.slice Aa na ca) ∧ w'.cell? ⟨b, o + k * 12 + 9, none⟩ = some (.string e.node.text) ∧ w'.cell? ⟨b, o + k * 12 + 10, none⟩ = some (.int .i64 e.node.parent) ∧ w'.cell? ⟨b, o + k * 12 + 11, none⟩ = some (.slice Ak nk ck)) wr.drew := ⟨x0, x1, f0, f1, f2, f3, f4, f5, f6, f7, f8, f9, f10, f11⟩
          refine wpAnyG_take (i := 0) (v := ?_) rfl (by kernel_rfl) (by kernel_rfl) (by kernel_rfl) (by kernel_rfl) (fun _ _ _ h => h) hS rfl ?_ ?_
          rotate_left
          · intro w' hSw
            (try dsimp only at hSw)
            first | (go_simp; done) | (go_simp; with_reducible rfl)
          refine wpAnyG_pure (i := 1) (v := ?_) rfl (by kernel_rfl) (by kernel_rfl) (by kernel_rfl) (fun _ _ _ h => h) rfl ?_ ?_
          rotate_left
          · intro w'
            first | (go_simp; done) | (go_simp; with_reducible rfl)
          refine wpAnyG_pure (i := 2) (v := ?_) rfl (by kernel_rfl) (by kernel_rfl) (by kernel_rfl) (fun _ _ _ h => h) rfl ?_ ?_
          rotate_left
          · intro w'
            first | (go_simp; done) | (go_simp; with_reducible rfl)
          refine wpAnyG_pure (i := 3) (v := ?_) rfl (by kernel_rfl) (by kernel_rfl) (by kernel_rfl) (fun _ _ _ h => h) rfl ?_ ?_
          rotate_left
          · intro w'
            first | (go_simp; done) | (go_simp; with_reducible rfl)
          refine wpAnyG_take (i := 4) (v := ?_) rfl (by kernel_rfl) (by kernel_rfl) (by kernel_rfl) (by kernel_rfl) (fun _ _ _ h => h) hS rfl ?_ ?_
          rotate_left
          · intro w' hSw
            (try dsimp only at hSw)
            first | (go_simp; done) | (go_simp; with_reducible rfl)
          refine wpAnyG_two (i := 5) (j := 10) (by kernel_rfl) rfl rfl rfl rfl (fun K hK => ?_) (fun K hK => ?_)
          · go_simp
            go_at_call 25
            refine (HAP.out wr.drew (Below.refl _ wr).drew).mono ?_
            rintro e' w6 ⟨hb6, hp6⟩
            have hbr6 : Below wr.heap.size wr w6 := (Below.refl _ wr).drew.trans hb6
            have dx0 := cell_be (w := wr.drew) x0 hb6
            have dx1 := cell_be (w := wr.drew) x1 hb6
            have df0 := cell_be (w := wr.drew) f0 hb6
            have df1 := cell_be (w := wr.drew) f1 hb6
            have df2 := cell_be (w := wr.drew) f2 hb6
            have df3 := cell_be (w := wr.drew) f3 hb6
            have df4 := cell_be (w := wr.drew) f4 hb6
            have df5 := cell_be (w := wr.drew) f5 hb6
            have df6 := cell_be (w := wr.drew) f6 hb6
            have df7 := cell_be (w := wr.drew) f7 hb6
            have df8 := cell_be (w := wr.drew) f8 hb6
            have df9 := cell_be (w := wr.drew) f9 hb6
            have df10 := cell_be (w := wr.drew) f10 hb6
            have df11 := cell_be (w := wr.drew) f11 hb6
            rcases hp6 with ⟨he6, rfl⟩ | ⟨he6, A6, c6, rfl, hs6⟩
            · rw [HAE.out] at he6
              have HX : Hid (StX wr q l' e (.pointer (some ⟨w6.heap.size, 0, none⟩)) (.int .i64 0) (.int .i64 (apErr l' e)) (w6.alloc (.cells #[.slice none 0 0, .bool false] 24))) := ⟨w6.heap.size, rfl, hbr6.alloc hbr6.size _, hbr6.size, Or.inl ⟨he6, rfl, by rw [HAE.out], heap_alloc_new w6 _⟩⟩
              clear he6 hbr6 hb6 HAP x0 x1 f0 f1 f2 f3 f4 f5 f6 f7 f8 f9 f10 f11
              go_wp2_with fail
              refine hK.out _ _ (fun _ _ => ⟨dx0, dx1, df0, df1, df2, df3, df4, df5, df6, df7, df8, df9, df10, df11⟩) ?_
              clear hK K hS
              refine wpAnyG_pure (i := 6) (v := ?_) rfl (by kernel_rfl) (by kernel_rfl) (by kernel_rfl) (fun _ _ _ h => h) rfl ?_ ?_
              rotate_left
              · intro w'
                first | (go_simp; done) | (go_simp; with_reducible rfl)
              refine wpAnyG_pure (i := 7) (v := ?_) rfl (by kernel_rfl) (by kernel_rfl) (by kernel_rfl) (fun _ _ _ h => h) rfl ?_ ?_
              rotate_left
              · intro w'
                first | (go_simp; done) | (go_simp; with_reducible rfl)
              refine wpAnyG_pure (i := 8) (v := ?_) rfl (by kernel_rfl) (by kernel_rfl) (by kernel_rfl) (fun _ _ _ h => h) rfl ?_ ?_
              rotate_left
              · intro w'
                first | (go_simp; done) | (go_simp; with_reducible rfl)
              refine wpAnyG_pure (i := 9) (v := ?_) rfl (by kernel_rfl) (by kernel_rfl) (by kernel_rfl) (fun _ _ _ h => h) rfl ?_ ?_
              rotate_left
              · intro w'
                first | (go_simp; done) | (go_simp; with_reducible rfl)
              refine wpAnyG_one (i := 10) (by kernel_rfl) rfl rfl (fun K hK => ?_)
              go_simp
              refine hK.out _ _ (fun _ _ => ⟨cell_al dx0 _, cell_al dx1 _, cell_al df0 _, cell_al df1 _, cell_al df2 _, cell_al df3 _, cell_al df4 _, cell_al df5 _, cell_al df6 _, cell_al df7 _, cell_al df8 _, cell_al df9 _, cell_al df10 _, cell_al df11 _⟩) ?_
              clear hK K
              refine wpAnyG_one (i := 11) (by kernel_rfl) rfl rfl (fun K hK => ?_)
              go_simp
              refine hK.out _ _ (fun h => absurd (by decide) h) ?_
              clear hK K
              refine wpAnyG_one (i := 12) (by kernel_rfl) rfl rfl (fun K hK => ?_)
              go_simp
              refine hK.out _ _ (fun _ h => h) ?_
              clear hK K
              refine wpAnyG_one (i := 13) (by kernel_rfl) rfl rfl (fun K hK => ?_)
              go_simp
              refine hK.out _ _ (fun _ h => h) ?_
              clear hK K
              refine wpAnyG_done (by kernel_rfl) ?_ _
              go_wp2_with fail
              go_meet
              case rel => exact HX.out
            · rw [HAE.out] at he6
              have HX : Hid (StX wr q l' e (.pointer (some ⟨w6.heap.size, 0, none⟩)) (.int .i64 (edMade l' 0 e)) (.int .i64 0) (w6.alloc (.cells #[.slice A6 (edDo l' e).length c6, .bool q] 24))) := ⟨w6.heap.size, rfl, hbr6.alloc hbr6.size _, hbr6.size, Or.inr ⟨he6, rfl, rfl, A6, c6, heap_alloc_new w6 _, Sl.rgd (sl_al_rg hs6 (Nat.le_refl _) _) (Nat.le_refl _) (by simp)⟩⟩
              clear he6 hbr6 hb6 hs6 HAP x0 x1 f0 f1 f2 f3 f4 f5 f6 f7 f8 f9 f10 f11
              go_wp2_with fail
              refine hK.out _ _ (fun _ _ => ⟨dx0, dx1, df0, df1, df2, df3, df4, df5, df6, df7, df8, df9, df10, df11⟩) ?_
              clear hK K hS
              refine wpAnyG_pure (i := 6) (v := ?_) rfl (by kernel_rfl) (by kernel_rfl) (by kernel_rfl) (fun _ _ _ h => h) rfl ?_ ?_
              rotate_left
              · intro w'
                first | (go_simp; done) | (go_simp; with_reducible rfl)
              refine wpAnyG_pure (i := 7) (v := ?_) rfl (by kernel_rfl) (by kernel_rfl) (by kernel_rfl) (fun _ _ _ h => h) rfl ?_ ?_
              rotate_left
              · intro w'
                first | (go_simp; done) | (go_simp; with_reducible rfl)
              refine wpAnyG_pure (i := 8) (v := ?_) rfl (by kernel_rfl) (by kernel_rfl) (by kernel_rfl) (fun _ _ _ h => h) rfl ?_ ?_
              rotate_left
              · intro w'
                first | (go_simp; done) | (go_simp; with_reducible rfl)
              refine wpAnyG_pure (i := 9) (v := ?_) rfl (by kernel_rfl) (by kernel_rfl) (by kernel_rfl) (fun _ _ _ h => h) rfl ?_ ?_
              rotate_left
              · intro w'
                first | (go_simp; done) | (go_simp; with_reducible rfl)
              refine wpAnyG_one (i := 10) (by kernel_rfl) rfl rfl (fun K hK => ?_)
              go_simp
              refine hK.out _ _ (fun _ _ => ⟨cell_al dx0 _, cell_al dx1 _, cell_al df0 _, cell_al df1 _, cell_al df2 _, cell_al df3 _, cell_al df4 _, cell_al df5 _, cell_al df6 _, cell_al df7 _, cell_al df8 _, cell_al df9 _, cell_al df10 _, cell_al df11 _⟩) ?_
              clear hK K
              refine wpAnyG_one (i := 11) (by kernel_rfl) rfl rfl (fun K hK => ?_)
              go_simp
              refine hK.out _ _ (fun h => absurd (by decide) h) ?_
              clear hK K
              refine wpAnyG_one (i := 12) (by kernel_rfl) rfl rfl (fun K hK => ?_)
              go_simp
              refine hK.out _ _ (fun _ h => h) ?_
              clear hK K
              refine wpAnyG_one (i := 13) (by kernel_rfl) rfl rfl (fun K hK => ?_)
              go_simp
              refine hK.out _ _ (fun _ h => h) ?_
              clear hK K
              refine wpAnyG_done (by kernel_rfl) ?_ _
              go_wp2_with fail
              go_meet
              case rel => exact HX.out
          · go_simp
            refine hK.out _ _ (fun _ _ => ⟨cell_al (w := wr.drew) x0 _, cell_al (w := wr.drew) x1 _, cell_al (w := wr.drew) f0 _, cell_al (w := wr.drew) f1 _, cell_al (w := wr.drew) f2 _, cell_al (w := wr.drew) f3 _, cell_al (w := wr.drew) f4 _, cell_al (w := wr.drew) f5 _, cell_al (w := wr.drew) f6 _, cell_al (w := wr.drew) f7 _, cell_al (w := wr.drew) f8 _, cell_al (w := wr.drew) f9 _, cell_al (w := wr.drew) f10 _, cell_al (w := wr.drew) f11 _⟩) ?_
            clear hK K hS
            refine wpAnyG_one (i := 5) (by kernel_rfl) rfl rfl (fun K hK => ?_)
            go_simp
            go_at_call 25
            refine (HAP.out (wr.drew.alloc (.cells #[.slice none 0 0, .bool false] 24)) ((Below.refl _ wr).drew.alloc (Nat.le_refl _) _)).mono ?_
            rintro e' w6 ⟨hb6, hp6⟩
            have hbr6 : Below wr.heap.size wr w6 := ((Below.refl _ wr).drew.alloc (Nat.le_refl _) _).trans (hb6.mono (by simp))
            have hO : w6.heap[wr.heap.size]? = some (.cells #[.slice none 0 0, .bool false] 24 (0, 0)) := (hb6.block _ (by simp)).trans (heap_alloc_new wr.drew _)
            have dx0 := cell_be (cell_al (w := wr.drew) x0 _) hb6
            have dx1 := cell_be (cell_al (w := wr.drew) x1 _) hb6
            have df0 := cell_be (cell_al (w := wr.drew) f0 _) hb6
            have df1 := cell_be (cell_al (w := wr.drew) f1 _) hb6
            have df2 := cell_be (cell_al (w := wr.drew) f2 _) hb6
            have df3 := cell_be (cell_al (w := wr.drew) f3 _) hb6
            have df4 := cell_be (cell_al (w := wr.drew) f4 _) hb6
            have df5 := cell_be (cell_al (w := wr.drew) f5 _) hb6
            have df6 := cell_be (cell_al (w := wr.drew) f6 _) hb6
            have df7 := cell_be (cell_al (w := wr.drew) f7 _) hb6
            have df8 := cell_be (cell_al (w := wr.drew) f8 _) hb6
            have df9 := cell_be (cell_al (w := wr.drew) f9 _) hb6
            have df10 := cell_be (cell_al (w := wr.drew) f10 _) hb6
            have df11 := cell_be (cell_al (w := wr.drew) f11 _) hb6
            have g1 := cell_blk (i := 0) hO rfl
            have g2 := cell_blk (i := 1) hO rfl
            have g3 := free_blk (i := 0) hO
            have g4 := free_blk (i := 1) hO
            rcases hp6 with ⟨he6, rfl⟩ | ⟨he6, A6, c6, rfl, hs6⟩
            · rw [HAE.out] at he6
              have HX : Hid (StX wr q l' e (.pointer (some ⟨wr.heap.size, 0, none⟩)) (.int .i64 0) (.int .i64 (apErr l' e)) ((w6.setCell ⟨wr.heap.size, 0, none⟩ (.slice none 0 0)).setCell ⟨wr.heap.size, 1, none⟩ (.bool false))) := ⟨wr.heap.size, rfl, (hbr6.setCell (p := ⟨wr.heap.size, 0, none⟩) (Nat.le_refl _) _).setCell (p := ⟨wr.heap.size, 1, none⟩) (Nat.le_refl _) _, Nat.le_refl _, Or.inl ⟨he6, rfl, by rw [HAE.out], set_blk (set_blk hO _) _⟩⟩
              clear he6 hbr6 hb6 hO HAP x0 x1 f0 f1 f2 f3 f4 f5 f6 f7 f8 f9 f10 f11
              go_wp2_with fail
              refine hK.out _ _ (fun _ _ => ⟨dx0, dx1, df0, df1, df2, df3, df4, df5, df6, df7, df8, df9, df10, df11⟩) ?_
              clear hK K
              refine wpAnyG_pure (i := 6) (v := ?_) rfl (by kernel_rfl) (by kernel_rfl) (by kernel_rfl) (fun _ _ _ h => h) rfl ?_ ?_
              rotate_left
              · intro w'
                first | (go_simp; done) | (go_simp; with_reducible rfl)
              refine wpAnyG_pure (i := 7) (v := ?_) rfl (by kernel_rfl) (by kernel_rfl) (by kernel_rfl) (fun _ _ _ h => h) rfl ?_ ?_
              rotate_left
              · intro w'
                first | (go_simp; done) | (go_simp; with_reducible rfl)
              refine wpAnyG_pure (i := 8) (v := ?_) rfl (by kernel_rfl) (by kernel_rfl) (by kernel_rfl) (fun _ _ _ h => h) rfl ?_ ?_
              rotate_left
              · intro w'
                first | (go_simp; done) | (go_simp; with_reducible rfl)
              refine wpAnyG_pure (i := 9) (v := ?_) rfl (by kernel_rfl) (by kernel_rfl) (by kernel_rfl) (fun _ _ _ h => h) rfl ?_ ?_
              rotate_left
              · intro w'
                first | (go_simp; done) | (go_simp; with_reducible rfl)
              refine wpAnyG_one (i := 11) (by kernel_rfl) rfl rfl (fun K hK => ?_)
              go_simp
              refine hK.out _ _ (fun h => absurd (by decide) h) ?_
              clear hK K
              refine wpAnyG_one (i := 12) (by kernel_rfl) rfl rfl (fun K hK => ?_)
              go_simp
              refine hK.out _ _ (fun _ h => h) ?_
              clear hK K
              refine wpAnyG_one (i := 13) (by kernel_rfl) rfl rfl (fun K hK => ?_)
              go_simp
              refine hK.out _ _ (fun _ h => h) ?_
              clear hK K
              refine wpAnyG_done (by kernel_rfl) ?_ _
              go_wp2_with fail
              go_meet
              case rel => exact HX.out
            · rw [HAE.out] at he6
              have HX : Hid (StX wr q l' e (.pointer (some ⟨wr.heap.size, 0, none⟩)) (.int .i64 (edMade l' 0 e)) (.int .i64 0) ((w6.setCell ⟨wr.heap.size, 0, none⟩ (.slice A6 (edDo l' e).length c6)).setCell ⟨wr.heap.size, 1, none⟩ (.bool q))) := ⟨wr.heap.size, rfl, (hbr6.setCell (p := ⟨wr.heap.size, 0, none⟩) (Nat.le_refl _) _).setCell (p := ⟨wr.heap.size, 1, none⟩) (Nat.le_refl _) _, Nat.le_refl _, Or.inr ⟨he6, rfl, rfl, A6, c6, set_blk (set_blk hO _) _, Sl.rgd (sl_far (sl_far hs6 (by simp) 0 _) (by simp) 1 _) (by simp) (by simp)⟩⟩
              clear he6 hbr6 hb6 hO hs6 HAP x0 x1 f0 f1 f2 f3 f4 f5 f6 f7 f8 f9 f10 f11
              go_wp2_with fail
              refine hK.out _ _ (fun _ _ => ⟨dx0, dx1, df0, df1, df2, df3, df4, df5, df6, df7, df8, df9, df10, df11⟩) ?_
              clear hK K
              refine wpAnyG_pure (i := 6) (v := ?_) rfl (by kernel_rfl) (by kernel_rfl) (by kernel_rfl) (fun _ _ _ h => h) rfl ?_ ?_
              rotate_left
              · intro w'
                first | (go_simp; done) | (go_simp; with_reducible rfl)
              refine wpAnyG_pure (i := 7) (v := ?_) rfl (by kernel_rfl) (by kernel_rfl) (by kernel_rfl) (fun _ _ _ h => h) rfl ?_ ?_
              rotate_left
              · intro w'
                first | (go_simp; done) | (go_simp; with_reducible rfl)
              refine wpAnyG_pure (i := 8) (v := ?_) rfl (by kernel_rfl) (by kernel_rfl) (by kernel_rfl) (fun _ _ _ h => h) rfl ?_ ?_
              rotate_left
              · intro w'
                first | (go_simp; done) | (go_simp; with_reducible rfl)
              refine wpAnyG_pure (i := 9) (v := ?_) rfl (by kernel_rfl) (by kernel_rfl) (by kernel_rfl) (fun _ _ _ h => h) rfl ?_ ?_
              rotate_left
              · intro w'
                first | (go_simp; done) | (go_simp; with_reducible rfl)
              refine wpAnyG_one (i := 11) (by kernel_rfl) rfl rfl (fun K hK => ?_)
              go_simp
              refine hK.out _ _ (fun h => absurd (by decide) h) ?_
              clear hK K
              refine wpAnyG_one (i := 12) (by kernel_rfl) rfl rfl (fun K hK => ?_)
              go_simp
              refine hK.out _ _ (fun _ h => h) ?_
              clear hK K
              refine wpAnyG_one (i := 13) (by kernel_rfl) rfl rfl (fun K hK => ?_)
              go_simp
              refine hK.out _ _ (fun _ h => h) ?_
              clear hK K
              refine wpAnyG_done (by kernel_rfl) ?_ _
              go_wp2_with fail
              go_meet
              case rel => exact HX.out
        case rest =>
          obtain ⟨O, rfl, hbw, hO, hx⟩ := hcut
          obtain ⟨wx, rfl⟩ : ∃ wx : World, wx = wc := ⟨_, rfl⟩
          have HBX := Lib.hid (HBR.out.trans (hbw.mono HBR.out.size))
          have hxx := (hbw.block _ HDB2.out).trans HXR.out
          have HDX := Lib.hid ((HDR.out.below hbw (Nat.le_refl _)).up hbw.size)
          rcases hx with ⟨he, rfl, rfl, hob⟩ | ⟨he, rfl, rfl, A6, c6, hob, hs6⟩
          · have he1 : (edErr l' e != 0) = true := by simpa using he
            have o0 := cell_blk (i := 0) hob rfl
            have HRN : Hid (StR w q wx) := ⟨A', n', c', l', HBX.out, hxx, HDX.out, HGD.out⟩
            generalize edErr l' e = er at *
            clear he hob hbw hxx x0 x1 f0 f1 f2 f3 f4 f5 f6 f7 f8 f9 f10 f11 HAP
            go_wp2_with fail
            go_roundw
            case rel => exact ⟨k + 1, by omega, by go_num, HRN⟩
            case measure => simp [intOf]; omega
          · have HG2 := Lib.hid (good_ed HGD.out he)
            have HST := Lib.hid (ed_stay l' e).2
            have HMD := Lib.hid (ed_made l' e)
            have HNN := Lib.hid HDR.out.hn
            have hpos : 0 < n' := by have := HNN.out; have := HGD.out.pos; omega
            obtain ⟨l2, hl2⟩ : ∃ l2, edDo l' e = l2 := ⟨_, rfl⟩
            obtain ⟨md, hmd⟩ : ∃ md, edMade l' 0 e = md := ⟨_, rfl⟩
            rw [hl2] at hob hs6 HG2 HST HMD
            rw [hmd] at HMD
            rw [hmd]
            clear hl2 hmd
            have o0 := cell_blk (i := 0) hob rfl
            have o1 := cell_blk (i := 1) hob rfl
            have x0 := cell_blk (i := 0) hxx rfl
            have x1 := cell_blk (i := 1) hxx rfl
            have HCK2 := Lib.hid (check_dom A6 l2.length c6 l2 q wx wx.heap.size (Sl.ltr hs6) (Nat.le_refl _))
            rw [check_of HG2.out] at HCK2
            have HOB := Lib.hid hob
            have HXX := Lib.hid hxx
            have HS6 := Lib.hid hs6
            have HBW2 := Lib.hid hbw.size
            have HOL : Hid (O < wx.heap.size) := (Array.getElem?_eq_some_iff.1 hob).1
            clear he hob hbw hxx hs6 f0 f1 f2 f3 f4 f5 f6 f7 f8 f9 f10 f11 HAP
            go_upto_region 11 with fail
            go_cut [70] (fun b wy => b = .bool false ∧ Below wx.heap.size wx wy)
            case first =>
              rcases HMD.out with ⟨h1, h2⟩ | ⟨h1, h2⟩
              · have j1 : (md != 0) = true := bne_iff_ne.2 (by have := HNN.out; omega)
                have j2 : (md != (l2.length : Int) - 1) = false := bne_eq_false_iff_eq.2 (by omega)
                have j3 : decide (l2.length < n') = false := decide_eq_false (by have := HNN.out; omega)
                have hsm2 : l2.length ≤ 200 := HG2.out.small
                have j4 : 1 ≤ l2.length := by omega
                clear h1 h2
                go_wp2_with (go_at_call 24; refine HCK2.out.mono ?_; rintro e' wy ⟨rfl, hby⟩; have p0 := cell_be o0 hby; have p1 := cell_be x0 hby)
                go_meet
                case rel => exact ⟨rfl, hby⟩
              · have j1 : (md != 0) = false := by rw [h2]; rfl
                have j3 : decide (l2.length < n') = false := decide_eq_false (by have := HNN.out; omega)
                have hsm2 : l2.length ≤ 200 := HG2.out.small
                clear h1 h2
                go_wp2_with (go_at_call 24; refine HCK2.out.mono ?_; rintro e' wy ⟨rfl, hby⟩; have p0 := cell_be o0 hby; have p1 := cell_be x0 hby)
                go_meet
                case rel => exact ⟨rfl, hby⟩
            case rest =>
              obtain ⟨rfl, hby⟩ := hcut
              obtain ⟨wo, hwo⟩ : ∃ wo : World, wo = wr := ⟨_, rfl⟩
              rw [← hwo] at HS6 HBW2 HDB2
              clear hwo
              have hoy := (hby.block O HOL.out).trans HOB.out
              have hxy := (hby.block w.heap.size (Array.getElem?_eq_some_iff.1 HXX.out).1).trans HXX.out
              have HBY := Lib.hid (HBX.out.trans (hby.mono HBX.out.size))
              have HSY : Hid (Sl tNd wc (rg wo.heap.size wx.heap.size) A6 l2.length c6 l2) := HS6.out.keep (fun p hp => hby.cell (p := p) hp.2)
              have hl2pos : 0 < l2.length := HG2.out.pos
              obtain ⟨b1, o1, rfl, hd1⟩ := doc_at (HDX.out.below hby (Nat.le_refl _)) hpos
              obtain ⟨b2, o2, e2, hd2⟩ := doc_at (Sl.ltr HSY.out) hl2pos
              subst e2
              have HD1 := Lib.hid hd1
              have HD2 := Lib.hid hd2
              have HOY := Lib.hid hoy
              have HXY := Lib.hid hxy
              have hcap1 := HDX.out.hc
              have hcap2 := HSY.out.hc
              have hsm2 : l2.length ≤ 200 := HG2.out.small
              have hsm1 : n' ≤ 200 := by have := HGD.out.small; have := HNN.out; omega
              have HLE : Hid (n' ≤ l2.length) := by rcases HMD.out with ⟨h, _⟩ | ⟨h, _⟩ <;> (have := HNN.out; show n' ≤ l2.length; omega)
              have HSZ3 : Hid (wx.heap.size ≤ wc.heap.size) := hby.size
              clear hby hoy hxy hd1 hd2 x0 x1 o0 o1
              obtain ⟨wy, rfl⟩ : ∃ wy : World, wy = wc := ⟨_, rfl⟩
              go_upto_region 14 with fail
              go_loopw [9] (fun s wz => ∃ j : Nat, j ≤ n' ∧ s = .int .i64 (j : Int) ∧ Hid (Below wy.heap.size wy wz)) (fun s _ => n' - (intOf s).toNat)
              case atStart => exact ⟨0, Nat.zero_le _, rfl, Lib.hid (Below.refl _ _)⟩
              case round =>
                obtain ⟨j, hj, rfl, HBJ⟩ := hrel
                have hoj := (HBJ.out.block O (Array.getElem?_eq_some_iff.1 HOY.out).1).trans HOY.out
                have hxj := (HBJ.out.block w.heap.size (Array.getElem?_eq_some_iff.1 HXY.out).1).trans HXY.out
                have x0 := cell_blk (i := 0) hxj rfl
                have o0 := cell_blk (i := 0) hoj rfl
                by_cases hlt2 : j < n'
                · obtain ⟨x, hx⟩ : ∃ x, l'[j]? = some x := get_some (by have := HNN.out; omega)
                  obtain ⟨y, hy, hyk, hyn⟩ := HST.out j x hx
                  obtain ⟨_, _, _, _, _, _, _, cx0, cx1, _⟩ := (HD1.out.below HBJ.out (Nat.le_trans (Nat.le_refl _) HSZ3.out)).at_ j x hx
                  obtain ⟨_, _, _, _, _, _, _, cy0, cy1, _⟩ := (HD2.out.below HBJ.out HSZ3.out).at_ j y hy
                  rw [hyk] at cy0
                  rw [hyn] at cy1
                  have i3 : (0 : Int) ≤ (j : Int) := by omega
                  have i4 : (j : Int) < (n' : Int) := by omega
                  have i5 : (j : Int) < (l2.length : Int) := by have := HLE.out; omega
                  have kk : (x.kind != x.kind) = false := by simp
                  clear hx hy hyk hyn hoj hxj
                  go_upto_region 16 with fail
                  go_quiet (fail)
                  generalize hwz : wr.drewN _ = wz
                  have HBZ : Hid (Below wy.heap.size wy wz) := by rw [← hwz]; exact below_dN HBJ.out _
                  clear hwz
                  go_wp2_with fail
                  go_roundw
                  case rel => exact ⟨j + 1, by omega, by go_num, HBZ⟩
                  case measure => simp [intOf]; omega
                · have x1 := cell_blk (i := 1) hxj rfl
                  have o1 := cell_blk (i := 1) hoj rfl
                  have z0 := free_blk (i := 0) hxj
                  have z1 := free_blk (i := 1) hxj
                  have hsl : Sl tNd wr (rg wo.heap.size wx.heap.size) (some ⟨b2, o2, none⟩) l2.length c6 l2 := HSY.out.keep (fun p hp => HBJ.out.cell (p := p) (Nat.lt_of_lt_of_le hp.2 HSZ3.out))
                  have HRN : Hid (StR w q ((wr.setCell ⟨w.heap.size, 0, none⟩ (.slice (some ⟨b2, o2, none⟩) l2.length c6)).setCell ⟨w.heap.size, 1, none⟩ (.bool q))) :=
                    ⟨some ⟨b2, o2, none⟩, l2.length, c6, l2, ((HBY.out.trans (HBJ.out.mono HBY.out.size)).setCell (p := ⟨w.heap.size, 0, none⟩) (Nat.le_refl _) _).setCell (p := ⟨w.heap.size, 1, none⟩) (Nat.le_refl _) _, set_blk (set_blk hxj _) _, (Sl.ltr (sl_far (sl_far hsl HDB2.out 0 _) HDB2.out 1 _)).up (by simp; exact Nat.le_trans HSZ3.out HBJ.out.size), HG2.out⟩
                  clear hsl hoj hxj
                  go_wp2_with fail
                  go_roundw
                  case rel => exact ⟨k + 1, by omega, by go_num, HRN⟩
                  case measure => simp [intOf]; omega
      · have HBR := Lib.hid hbr
        have HBG := Lib.hid (HDB.out wr)
        clear hbr hxr hdr hgd HR
        go_wp2_with (go_at_call 22; refine HBG.out.mono ?_; rintro e w4 ⟨rfl, hb4⟩)
        refine bodyPost_ret (v := .bool true) (by simp [results, Tryd.results6, go_sem]) rfl ⟨rfl, ?_⟩
        exact HBR.out.trans (hb4.mono HBR.out.size)
  · have hck1 : (checkD l != 0) = true := by simpa using hck
    clear hck
    generalize checkD l = er at *
    go_upto_region 3 with (go_at_call 24; refine HCK.out.mono ?_; rintro e w3 ⟨rfl, hb3⟩)
    have HB3 := Lib.hid (HB2.out.trans (hb3.mono HB2.out.size))
    have HBG := Lib.hid (HDB.out w3)
    clear hb3
    go_wp2_with (go_at_call 22; refine HBG.out.mono ?_; rintro e w4 ⟨rfl, hb4⟩)
    refine bodyPost_ret (v := .bool true) (by simp [results, Tryd.results6, go_sem]) rfl ⟨rfl, ?_⟩
    exact HB3.out.trans (hb4.mono HB3.out.size)
end Go.Proofs.YtmemadajjmmlpaaDoor
