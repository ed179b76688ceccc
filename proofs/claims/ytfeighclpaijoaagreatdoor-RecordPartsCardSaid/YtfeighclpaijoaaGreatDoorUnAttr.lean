/-
The walks of package record's undoer: attr.
-/
import Derived.Test.YtfeighclpaijoaaGreatDoorUnText
namespace Go.Proofs.YtfeighclpaijoaaGreatDoor
open Go.RowKit Go.Cl
attribute [local go_sem ↓] Go.wp_at_zero Go.wp_at_succ

set_option maxRecDepth 100000 in
set_option maxHeartbeats 8000000 in
theorem unAttr_set (w : World) (E g c base : Nat) (l : List Nd) (q : Bool) (ps : List (Value × Value)) (s : Stp) (Aa : Option Addr) (na ca : Nat) (Ak : Option Addr) (nk ck : Nat) (h : UnAt w E g c base l q ps) (hok : StpOk w (lt base) s Aa na ca Ak nk ck) {m i : Nat} {x : Nd} {a : DAttr} (hat : s.edit.at_ = (m : Int)) (hx : l[m]? = some x) (hf : findA x.attrs s.edit.name = (i : Int)) (ha : x.attrs[i]? = some a) (hhad : s.had = true) (h12 : x.attrs.length ≤ 12) :
    Calls Tryz.prog 32 #[.pointer (some ⟨E, 0, none⟩), .agg (stpCells s Aa na ca Ak nk ck)] w (UnPost w E base q (l.set m { x with attrs := x.attrs.set i (a.1, s.was) })) := by
  obtain ⟨w0, hw0⟩ : ∃ w0, w0 = w.alloc (.cells (stpCells s Aa na ca Ak nk ck) 48) := ⟨_, rfl⟩
  have hbx : w0.heap[w.heap.size]? = some (.cells (stpCells s Aa na ca Ak nk ck) 48 (0, 0)) := by rw [hw0]; exact heap_alloc_new w _
  have hb0 : Below w.heap.size w w0 := by rw [hw0]; exact (Below.refl _ _).alloc (Nat.le_refl _) _
  have hz0 : w0.heap.size = w.heap.size + 1 := by rw [hw0]; exact World.size_alloc w _
  have H0 := Lib.hid (h.next hb0)
  have HB0 := Lib.hid hb0
  have HBX := Lib.hid hbx
  have HZ0 := Lib.hid hz0
  have HBE : Hid (base ≤ w.heap.size) := Nat.le_trans h.le (Nat.le_of_lt h.lt)
  have HOK := Lib.hid hok
  have s1 : w0.cell? ⟨w.heap.size, 1, none⟩ = some (.int .i64 s.edit.at_) := cell_blk hbx rfl
  have s4 : w0.cell? ⟨w.heap.size, 4, none⟩ = some (.string s.edit.name) := cell_blk hbx rfl
  have s12 : w0.cell? ⟨w.heap.size, 12, none⟩ = some (.bool s.had) := cell_blk hbx rfl
  have s13 : w0.cell? ⟨w.heap.size, 13, none⟩ = some (.string s.was) := cell_blk hbx rfl
  unfold stpCells at hw0

  have HN := Lib.hid (unNode_any w0 E g c base l q ps s.edit.at_ H0.out)
  obtain ⟨p, hp, hnd⟩ := H0.out.node hx
  obtain ⟨Aat, ca1, hat1⟩ := Own.form hnd.parts.attrs
  have hil := (List.getElem?_eq_some_iff.1 ha).1
  have hown := hnd.parts.attrs
  rw [hat1] at hown
  obtain ⟨ga, _, rfl, hga, hgl, _, hcells, hfree⟩ := Own.block hown (by omega)
  have hs1 := OwnF.sl hown (by decide) (by show x.attrs.length * 32 ≤ _; omega)
  obtain ⟨A1, c1, e1, hsl⟩ := hs1
  injection e1 with e1 _ e3
  subst e1 e3
  have k2 := hnd.c2
  rw [hat1] at k2
  rw [hat, ptr_some hx] at HN
  rw [hat] at s1
  rw [hhad] at s12
  have HPL := Lib.hid (place_any (some ⟨ga, 0, none⟩) x.attrs.length ca1 x.attrs s.edit.name w0.drew w0.heap.size hsl.drew (Nat.le_refl _))
  rw [hf] at HPL
  have HND := Lib.hid hnd
  have HP := Lib.hid hp
  have HX := Lib.hid hx
  have HA := Lib.hid ha
  have HAT := Lib.hid hat1
  have HSL := Lib.hid hsl
  have HGA : Hid (base ≤ ga) := hga
  have H12 := Lib.hid h12
  have HGL : Hid (ga < w0.heap.size) := hgl
  have HGN : Hid (g < w0.heap.size) := hnd.lt
  have HBXL : Hid (w.heap.size < w0.heap.size) := by rw [HZ0.out]; exact Nat.lt_succ_self _
  clear hbx hb0 hz0 hok h hp hnd hx hat hf hcells hfree hhad hat1 hown ha hsl h12
  go_enter Tryz.func32, Tryz.ntmps32
  unfold stpCells
  go_upto_region 1 with fail
  rw [← hw0]
  clear hw0

  go_upto_region 4 with (go_at_call 48; refine HN.out.mono ?_; rintro e w1 ⟨rfl, rfl⟩)
  go_region_held3 (fun w' => w'.cell? ⟨g, m * 6 + 2, none⟩ = some (.slice (some ⟨ga, 0, none⟩) x.attrs.length ca1) ∧ w'.cell? ⟨w.heap.size, 4, none⟩ = some (.string s.edit.name)) (first | exact ⟨k2, s4⟩ | exact ⟨r0, r1⟩)
    ((go_at_call 47; refine HPL.out.mono ?_; rintro e' w2 ⟨rfl, hb2⟩; have r0 := cell_be (w := w0.drew) k2 hb2; have r1 := cell_be (w := w0.drew) s4 hb2))
  have hb02 : Below w0.heap.size w0 w2 := ((Below.refl _ w0).drew).trans hb2
  have H2 := Lib.hid (H0.out.next hb02)
  have hown2 : OwnF tDA w2 base 66 (.slice (some ⟨ga, 0, none⟩) x.attrs.length ca1) x.attrs.length x.attrs := by
    have h1 := (HND.out.next hb02).parts.attrs
    rw [HAT.out] at h1
    exact h1
  have hil := (List.getElem?_eq_some_iff.1 HA.out).1
  obtain ⟨_, _, e9, _, _, _, hcell2, hfree2⟩ := Own.block hown2 (by omega)
  obtain ⟨b9, o9, e8, _, _, k1, _, _⟩ := da_cells (HSL.out.below hb02 (Nat.le_refl _)) HA.out
  simp only [Option.some.injEq, Addr.mk.injEq, and_true] at e8
  obtain ⟨rfl, rfl⟩ := e8
  rw [Nat.zero_add] at k1
  simp only [Option.some.injEq, Addr.mk.injEq, and_true] at e9
  subst e9
  have f1 := hfree2 (i * 2 + 1)
  have t12 := cell_be s12 hb02
  have t13 := cell_be s13 hb02
  have HO2 := Lib.hid hown2
  have HB2 := Lib.hid (HB0.out.trans (hb02.mono HB0.out.size))
  have hcap := HSL.out.hc
  have i1 : (0 : Int) ≤ (i : Int) := by omega
  have i2 : (i : Int) < (x.attrs.length : Int) := by omega
  clear hb02 hb2 hown2 hcell2 hfree2 s1 s4 s12 s13 k2 HPL HN
  go_upto_region 6 with fail
  refine wp_region_G (S := fun w' : World => w'.cell? ⟨g, m * 6 + 2, none⟩ = some (.slice (some ⟨ga, 0, none⟩) x.attrs.length ca1) ∧ w'.cell? ⟨w.heap.size, 13, none⟩ = some (.string s.was)) (T := [9]) (by kernel_rfl) ?_
  have hS : (fun w' : World => w'.cell? ⟨g, m * 6 + 2, none⟩ = some (.slice (some ⟨ga, 0, none⟩) x.attrs.length ca1) ∧ w'.cell? ⟨w.heap.size, 13, none⟩ = some (.string s.was)) w2.drew := ⟨r0, t13⟩
  refine wpAnyG_pure (i := 0) (v := ?_) rfl (by kernel_rfl) (by kernel_rfl) (by kernel_rfl) (fun _ _ _ h => h) rfl ?_ ?_
  rotate_left
  · intro w'
    first | (go_simp; done) | (go_simp; with_reducible rfl)
  refine wpAnyG_pure (i := 1) (v := ?_) rfl (by kernel_rfl) (by kernel_rfl) (by kernel_rfl) (fun _ _ _ h => h) rfl ?_ ?_
  rotate_left
  · intro w'
    first | (go_simp; done) | (go_simp; with_reducible rfl)
  refine wpAnyG_pure (i := 2) (v := ?_) rfl (by kernel_rfl) (by kernel_rfl) (by kernel_rfl) (fun _ _ _ h => h) rfl ?_ ?_
  rotate_left
  · intro w'
    first | (go_simp; done) | (go_simp; with_reducible rfl)
  refine wpAnyG_take (i := 3) (v := ?_) rfl (by kernel_rfl) (by kernel_rfl) (by kernel_rfl) (by kernel_rfl) (fun _ _ _ h => h) hS rfl ?_ ?_
  rotate_left
  · intro w' hSw
    (try dsimp only at hSw)
    first | (go_simp; done) | (go_simp; with_reducible rfl)
  refine wpAnyG_pure (i := 4) (v := ?_) rfl (by kernel_rfl) (by kernel_rfl) (by kernel_rfl) (fun _ _ _ h => h) rfl ?_ ?_
  rotate_left
  · intro w'
    first | (go_simp; done) | (go_simp; with_reducible rfl)
  refine wpAnyG_pure (i := 5) (v := ?_) rfl (by kernel_rfl) (by kernel_rfl) (by kernel_rfl) (fun _ _ _ h => h) rfl ?_ ?_
  rotate_left
  · intro w'
    first | (go_simp; done) | (go_simp; with_reducible rfl)
  refine wpAnyG_take (i := 6) (v := ?_) rfl (by kernel_rfl) (by kernel_rfl) (by kernel_rfl) (by kernel_rfl) (fun _ _ _ h => h) hS rfl ?_ ?_
  rotate_left
  · intro w' hSw
    (try dsimp only at hSw)
    first | (go_simp; done) | (go_simp; with_reducible rfl)
  refine wpAnyG_pure (i := 7) (v := .pointer (some ⟨ga, i * 2, none⟩)) rfl (by kernel_rfl) (by kernel_rfl) (by kernel_rfl) (fun _ _ _ h => h) rfl ?_ ?_
  · intro w'
    go_simp
    first | done | rw [if_pos hil]
  refine wpAnyG_pure (i := 8) (v := ?_) rfl (by kernel_rfl) (by kernel_rfl) (by kernel_rfl) (fun _ _ _ h => h) rfl ?_ ?_
  rotate_left
  · intro w'
    first | (go_simp; done) | (go_simp; with_reducible rfl)
  refine wpAnyG_one (i := 9) (by kernel_rfl) rfl rfl (fun K hK => ?_)
  go_simp
  refine hK.out _ _ (fun h => absurd (by decide) h) ?_
  clear hK K hS
  refine wpAnyG_done (by kernel_rfl) ?_ _
  go_wp2_with fail
  refine bodyPost_ret (v := .bool true) (by simp [results, Tryz.results32, go_sem]) rfl ⟨rfl, ?_, g, c, ps, ?_⟩
  · exact ⟨((HB2.out.drew).mono HBE.out).setCell (p := ⟨ga, i * 2 + 1, none⟩) HGA.out _, (Leaves.below HB2.out.drew).trans ((Leaves.refl _).put (near_row (OwnF.drew HO2.out) (Or.inr (Or.inl rfl)) ga rfl) _ _)⟩
  · have hst : OwnF tDA (w2.drew.setCell ⟨ga, i * 2 + 1, none⟩ (.string s.was)) base 66 (.slice (some ⟨ga, 0, none⟩) x.attrs.length ca1) x.attrs.length (x.attrs.set i (a.1, s.was)) :=
      Own.stored (T := tDA) (OwnF.drew HO2.out) (fun _ h => h.elim) HA.out (j := 1) (by decide) (fun cs hcs => by
        obtain ⟨_, _, rfl, ⟨rfl, h1⟩, rfl, h2⟩ := hcs
        exact ⟨[_], [_], rfl, ⟨rfl, h1⟩, rfl, HOK.out.was⟩)
    refine (UnAt.drew H2.out).attrs0 HX.out HP.out ?_ ?_ (by rw [List.length_set]; exact H12.out)
    · rw [HAT.out]; exact grown_set _ _ _ _
    · rw [HAT.out, List.length_set]; exact hst
set_option maxRecDepth 100000 in
set_option maxHeartbeats 8000000 in
theorem unAttr_cut (w : World) (E g c base : Nat) (l : List Nd) (q : Bool) (ps : List (Value × Value)) (s : Stp) (Aa : Option Addr) (na ca : Nat) (Ak : Option Addr) (nk ck : Nat) (h : UnAt w E g c base l q ps) (hok : StpOk w (lt base) s Aa na ca Ak nk ck) {m i : Nat} {x : Nd} {a : DAttr} (hat : s.edit.at_ = (m : Int)) (hx : l[m]? = some x) (hf : findA x.attrs s.edit.name = (i : Int)) (ha : x.attrs[i]? = some a) (hhad : s.had = false) (hlast : i + 1 = x.attrs.length) (h12 : x.attrs.length ≤ 12) :
    Calls Tryz.prog 32 #[.pointer (some ⟨E, 0, none⟩), .agg (stpCells s Aa na ca Ak nk ck)] w (UnPost w E base q (l.set m { x with attrs := x.attrs.take i })) := by
  obtain ⟨w0, hw0⟩ : ∃ w0, w0 = w.alloc (.cells (stpCells s Aa na ca Ak nk ck) 48) := ⟨_, rfl⟩
  have hbx : w0.heap[w.heap.size]? = some (.cells (stpCells s Aa na ca Ak nk ck) 48 (0, 0)) := by rw [hw0]; exact heap_alloc_new w _
  have hb0 : Below w.heap.size w w0 := by rw [hw0]; exact (Below.refl _ _).alloc (Nat.le_refl _) _
  have hz0 : w0.heap.size = w.heap.size + 1 := by rw [hw0]; exact World.size_alloc w _
  have H0 := Lib.hid (h.next hb0)
  have HB0 := Lib.hid hb0
  have HBX := Lib.hid hbx
  have HZ0 := Lib.hid hz0
  have HBE : Hid (base ≤ w.heap.size) := Nat.le_trans h.le (Nat.le_of_lt h.lt)
  have HOK := Lib.hid hok
  have s1 : w0.cell? ⟨w.heap.size, 1, none⟩ = some (.int .i64 s.edit.at_) := cell_blk hbx rfl
  have s4 : w0.cell? ⟨w.heap.size, 4, none⟩ = some (.string s.edit.name) := cell_blk hbx rfl
  have s12 : w0.cell? ⟨w.heap.size, 12, none⟩ = some (.bool s.had) := cell_blk hbx rfl
  have s13 : w0.cell? ⟨w.heap.size, 13, none⟩ = some (.string s.was) := cell_blk hbx rfl
  unfold stpCells at hw0

  have HNO := Lib.hid (unNode_any w0 E g c base l q ps s.edit.at_ H0.out)
  obtain ⟨p, hp, hnd⟩ := H0.out.node hx
  obtain ⟨Aat, ca1, hat1⟩ := Own.form hnd.parts.attrs
  have hil := (List.getElem?_eq_some_iff.1 ha).1
  have hown := hnd.parts.attrs
  rw [hat1] at hown
  obtain ⟨ga, _, rfl, hga, hgl, _, hcells, hfree⟩ := Own.block hown (by omega)
  have hs1 := OwnF.sl hown (by decide) (by show x.attrs.length * 32 ≤ _; omega)
  obtain ⟨A1, c1, e1, hsl⟩ := hs1
  injection e1 with e1 _ e3
  subst e1 e3
  have k2 := hnd.c2
  rw [hat1] at k2
  rw [hat, ptr_some hx] at HNO
  rw [hat] at s1
  rw [hhad] at s12
  have HPL := Lib.hid (place_any (some ⟨ga, 0, none⟩) x.attrs.length ca1 x.attrs s.edit.name w0.drew w0.heap.size hsl.drew (Nat.le_refl _))
  rw [hf] at HPL
  have HND := Lib.hid hnd
  have HP := Lib.hid hp
  have HX := Lib.hid hx
  have HA := Lib.hid ha
  have HAT := Lib.hid hat1
  have HSL := Lib.hid hsl
  have HGA : Hid (base ≤ ga) := hga
  have H12 := Lib.hid h12
  have HLA := Lib.hid hlast
  have HGL : Hid (ga < w0.heap.size) := hgl
  have HGN : Hid (g < w0.heap.size) := hnd.lt
  have HBXL : Hid (w.heap.size < w0.heap.size) := by rw [HZ0.out]; exact Nat.lt_succ_self _
  clear hbx hb0 hz0 hok h hp hnd hx hat hf hcells hfree hhad hat1 hown ha hsl h12 hlast
  go_enter Tryz.func32, Tryz.ntmps32
  unfold stpCells
  go_upto_region 1 with fail
  rw [← hw0]
  clear hw0

  go_upto_region 4 with (go_at_call 48; refine HNO.out.mono ?_; rintro e w1 ⟨rfl, rfl⟩)
  go_region_held3 (fun w' => w'.cell? ⟨g, m * 6 + 2, none⟩ = some (.slice (some ⟨ga, 0, none⟩) x.attrs.length ca1) ∧ w'.cell? ⟨w.heap.size, 4, none⟩ = some (.string s.edit.name)) (first | exact ⟨k2, s4⟩ | exact ⟨r0, r1⟩)
    ((go_at_call 47; refine HPL.out.mono ?_; rintro e' w2 ⟨rfl, hb2⟩; have r0 := cell_be (w := w0.drew) k2 hb2; have r1 := cell_be (w := w0.drew) s4 hb2))
  have hb02 : Below w0.heap.size w0 w2 := ((Below.refl _ w0).drew).trans hb2
  have H2 := Lib.hid (H0.out.next hb02)
  have hown2 : OwnF tDA w2 base 66 (.slice (some ⟨ga, 0, none⟩) x.attrs.length ca1) x.attrs.length x.attrs := by
    have h1 := (HND.out.next hb02).parts.attrs
    rw [HAT.out] at h1
    exact h1
  have hil := (List.getElem?_eq_some_iff.1 HA.out).1
  obtain ⟨_, _, e9, _, _, _, hcell2, hfree2⟩ := Own.block hown2 (by omega)
  obtain ⟨b9, o9, e8, _, _, k1, _, _⟩ := da_cells (HSL.out.below hb02 (Nat.le_refl _)) HA.out
  simp only [Option.some.injEq, Addr.mk.injEq, and_true] at e8
  obtain ⟨rfl, rfl⟩ := e8
  rw [Nat.zero_add] at k1
  simp only [Option.some.injEq, Addr.mk.injEq, and_true] at e9
  subst e9
  have f1 := hfree2 (i * 2 + 1)
  have t12 := cell_be s12 hb02
  have t13 := cell_be s13 hb02
  have HO2 := Lib.hid hown2
  have HB2 := Lib.hid (HB0.out.trans (hb02.mono HB0.out.size))
  have hcap := HSL.out.hc
  have i1 : (0 : Int) ≤ (i : Int) := by omega
  have i2 : (i : Int) < (x.attrs.length : Int) := by omega
  have f2 := (HND.out.next hb02).free (m * 6 + 2)
  have h64 : wrap64 ((x.attrs.length : Int) - 1) = (i : Int) := by have := H12.out; have := HLA.out; unfold wrap64; omega
  have i4 : ((i : Int) == wrap64 ((x.attrs.length : Int) - 1)) = true := by rw [h64]; simp
  have hw2 : IntKind.i64.wrap (i : Int) = (i : Int) := by have := H12.out; exact IntWalk.i64_in _ (by omega)
  have i3 : (i : Int) ≤ (ca1 : Int) := by omega
  clear hb02 hb2 hown2 hcell2 hfree2 s1 s4 s12 s13 k2 HPL h64
  go_wp2_with fail
  refine bodyPost_ret (v := .bool true) (by simp [results, Tryz.results32, go_sem]) rfl ⟨rfl, ?_, g, c, ps.set m (.slice (some ⟨ga, 0, none⟩) i ca1, p.2), ?_⟩
  · exact ⟨(HB2.out.mono HBE.out).setCell (p := ⟨g, m * 6 + 2, none⟩) HND.out.low _, (Leaves.below HB2.out).trans ((Leaves.refl _).put H2.out.near _ _)⟩
  · have hcut := Own.cut_to HO2.out (k := i) (by omega)
    have hlen : (x.attrs.take i).length = i := by rw [List.length_take]; omega
    refine H2.out.attrs HX.out HP.out (w1 := w2) ?_ (by rw [hlen]; exact hcut) (Or.inl (by rw [HAT.out]; rfl)) (by rw [hlen]; have := H12.out; omega)
    exact World.grownBy.refl w2 _
end Go.Proofs.YtfeighclpaijoaaGreatDoor
