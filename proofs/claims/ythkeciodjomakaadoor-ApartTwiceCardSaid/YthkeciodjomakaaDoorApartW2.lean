/-
The walks of package apart: touched, Touch, Clash.
-/
import Derived.Test.YthkeciodjomakaaDoorApartW
import Derived.Test.YthkeciodjomakaaDoorSortInts
namespace Go.Proofs.YthkeciodjomakaaDoor
open Go.RowKit Go.Cl
attribute [local go_sem ↓] Go.wp_at_zero Go.wp_at_succ

/-- A document and an edit in their boxes, in a later world. -/
structure TB (w : World) (B : Nat) (A : Option Addr) (k c : Nat) (q : Bool) (l : List Nd) (ce : Array Value) (u : World) : Prop where
  below : Below w.heap.size w u
  box : u.heap[w.heap.size]? = some (.cells #[.slice A k c, .bool q] 24 (0, 0))
  ebox : u.heap[w.heap.size + 1]? = some (.cells ce 30 (0, 0))
  doc : Sl tNd u (lt B) A k c l
  le : B ≤ w.heap.size
section
variable {w : World} {B : Nat} {A : Option Addr} {k c : Nat} {q : Bool} {l : List Nd} {ce : Array Value} {u u' : World}
theorem TB.size (h : TB w B A k c q l ce u) : w.heap.size + 2 ≤ u.heap.size := (Array.getElem?_eq_some_iff.1 h.ebox).1
theorem TB.next (h : TB w B A k c q l ce u) {b : Nat} (hb : Below b u u') (h2 : w.heap.size + 2 ≤ b) : TB w B A k c q l ce u' :=
  ⟨h.below.trans (hb.mono (by omega)), (hb.block _ (by omega)).trans h.box, (hb.block _ (by omega)).trans h.ebox, h.doc.below hb (Nat.le_trans h.le (by omega)), h.le⟩
theorem TB.c0 (h : TB w B A k c q l ce u) : u.cell? ⟨w.heap.size, 0, none⟩ = some (.slice A k c) := cell_blk h.box rfl
theorem TB.c1 (h : TB w B A k c q l ce u) : u.cell? ⟨w.heap.size, 1, none⟩ = some (.bool q) := cell_blk h.box rfl
theorem TB.e (h : TB w B A k c q l ce u) {j : Nat} {v : Value} (hv : ce[j]? = some v) : u.cell? ⟨w.heap.size + 1, j, none⟩ = some v := cell_blk h.ebox hv
end
theorem own_some {α : Type} {T : Ty α} {w : World} {base n : Nat} {e : TypeId} {D : Nat → Prop} {v : Value} {xs : List α} (h : Own T w base e D v n xs) (hn : 0 < n) : ∃ g c, v = .slice (some ⟨g, 0, none⟩) n c ∧ base ≤ g := by
  obtain ⟨A, c, rfl⟩ := Own.form h
  obtain ⟨g, _, rfl, hb, _⟩ := Own.block h hn
  exact ⟨g, c, rfl, hb⟩
theorem own_one {w : World} {base : Nat} (x : Int) (hx : (Lit.int .i64 x).wf = true) (hb : base ≤ w.heap.size) : OwnF (tInt .i64) (w.alloc (.cells #[.int .i64 x] 3)) base 3 (.slice (some ⟨w.heap.size, 0, none⟩) 1 1) 1 [x] :=
  own_of (heap_alloc_new w _) hb rfl (Nat.le_refl _) (by unfold maxLen; omega) rfl rfl (fun y hy => by obtain rfl := List.mem_singleton.1 hy; exact hx)
/-- What touched leaves behind. -/
def TchPost (w : World) (l : List Nd) (e : Edt) (e' : Ending) (w' : World) : Prop :=
  ∃ g n' c' t, e' = .returned (.slice (some ⟨g, 0, none⟩) n' c') ∧ Below w.heap.size w w' ∧ OwnF (tInt .i64) w' w.heap.size 3 (.slice (some ⟨g, 0, none⟩) n' c') n' t ∧ t.length ≤ 3 ∧ ∀ x, x ∈ t ↔ x ∈ touchD l e
set_option maxRecDepth 100000 in
set_option maxHeartbeats 4000000 in
theorem touched_any (A : Option Addr) (n c : Nat) (l : List Nd) (q : Bool) (e : Edt) (Aa : Option Addr) (na ca : Nat) (Ak : Option Addr) (nk ck : Nat) (w : World) (B : Nat) (hl : Sl tNd w (lt B) A n c l) (hB : B ≤ w.heap.size) (he : EdtOk w (lt B) e Aa na ca Ak nk ck) (G : Good l) (hed : edErr l e = 0) :
    Calls Tryd.prog 37 #[.agg #[.slice A n c, .bool q], .agg (edtCells e Aa na ca Ak nk ck)] w (TchPost w l e) := by
  obtain ⟨wa, hwa⟩ : ∃ wa, wa = w.alloc (.cells #[.slice A n c, .bool q] 24) := ⟨_, rfl⟩
  obtain ⟨w0, hw0⟩ : ∃ w0, w0 = wa.alloc (.cells (edtCells e Aa na ca Ak nk ck) 30) := ⟨_, rfl⟩
  have za : wa.heap.size = w.heap.size + 1 := by rw [hwa]; exact World.size_alloc w _
  have z0 : w0.heap.size = w.heap.size + 2 := by rw [hw0, World.size_alloc, za]
  have hxa : wa.heap[w.heap.size]? = some (.cells #[.slice A n c, .bool q] 24 (0, 0)) := by rw [hwa]; exact heap_alloc_new w _
  have hbe : w0.heap[w.heap.size + 1]? = some (.cells (edtCells e Aa na ca Ak nk ck) 30 (0, 0)) := by rw [hw0, ← za]; exact heap_alloc_new wa _
  have hbd : w0.heap[w.heap.size]? = some (.cells #[.slice A n c, .bool q] 24 (0, 0)) := by rw [hw0, Lib.alloc_old _ _ _ (by omega)]; exact hxa
  have hb0 : Below w.heap.size w w0 := by rw [hw0, hwa]; exact ((Below.refl _ _).alloc (Nat.le_refl _) _).alloc (by simp) _
  have H0 : Hid (TB w B A n c q l (edtCells e Aa na ca Ak nk ck) w0) := ⟨hb0, hbd, hbe, hl.below hb0 hB, hB⟩
  have HZ := Lib.hid z0
  have HG := Lib.hid G
  have T := tree_of (check_of G)
  have HT := Lib.hid T
  have HN := Lib.hid hl.hn
  have HE := Lib.hid hed
  have hat := he.at_
  have hto := he.to_
  have HAT := Lib.hid hat
  have HTO := Lib.hid hto
  have e0 : w0.cell? ⟨w.heap.size + 1, 0, none⟩ = some (.int .i64 e.do_) := cell_blk hbe rfl
  have e1 : w0.cell? ⟨w.heap.size + 1, 1, none⟩ = some (.int .i64 e.at_) := cell_blk hbe rfl
  clear za z0 hxa hbe hbd hb0 hl he hB hed G T hat hto
  obtain ⟨w1, hw1⟩ : ∃ w1, w1 = w0.alloc (.cells #[.int .i64 e.at_] 3) := ⟨_, rfl⟩
  have ho1 : OwnF (tInt .i64) w1 (w.heap.size + 2) 3 (.slice (some ⟨w0.heap.size, 0, none⟩) 1 1) 1 [e.at_] := by rw [hw1]; exact own_one _ HAT.out (by rw [HZ.out]; exact Nat.le_refl _)
  have hb1 : Below w0.heap.size w0 w1 := by rw [hw1]; exact (Below.refl _ _).alloc (Nat.le_refl _) _
  have H1 := Lib.hid (H0.out.next hb1 (by rw [HZ.out]; exact Nat.le_refl _))
  have HO1 := Lib.hid ho1
  go_enter Tryd.func37, Tryd.ntmps37
  unfold edtCells at *
  go_upto_region 1 with fail
  rw [← hwa, ← hw0]
  clear hwa hw0
  go_upto_region 2 with fail
  rw [← hw1]
  clear hw1 ho1 hb1
  have x0 := H1.out.c0
  have x1 := H1.out.c1
  have f0 : w1.cell? ⟨w.heap.size + 1, 0, none⟩ = some (.int .i64 e.do_) := H1.out.e rfl
  have f1 : w1.cell? ⟨w.heap.size + 1, 1, none⟩ = some (.int .i64 e.at_) := H1.out.e rfl
  have f2 : w1.cell? ⟨w.heap.size + 1, 2, none⟩ = some (.int .i64 e.to_) := H1.out.e rfl
  by_cases h4 : e.do_ = 4
  · have HD := Lib.hid (show touchD l e = [(n : Int)] from by unfold touchD; rw [if_pos h4, HN.out])
    have hn63 : n ≤ 200 := by have := HG.out.small; have := HN.out; omega
    rw [h4] at f0
    clear h4
    go_upto_region 12 with fail
    obtain ⟨w2, hw2⟩ : ∃ w2, w2 = w1.alloc (.cells #[.int .i64 (n : Int)] 3) := ⟨_, rfl⟩
    rw [← hw2]
    have HO2 := Lib.hid (show OwnF (tInt .i64) w2 w.heap.size 3 (.slice (some ⟨w1.heap.size, 0, none⟩) 1 1) 1 [(n : Int)] by rw [hw2]; exact own_one _ (WalkArith.wf_i64 (by omega)) (by have := H1.out.size; omega))
    have HB2 := Lib.hid (show Below w.heap.size w w2 by rw [hw2]; exact H1.out.below.alloc (by have := H1.out.size; omega) _)
    have HLW : Hid (w.heap.size ≤ w1.heap.size) := by have := H1.out.size; show _ ≤ _; omega
    clear hw2 f0 f1 f2 x0 x1 e0 e1
    · go_upto_region 13 with (go_at_call 70; refine (sortI _ _ _ [(n : Int)] _ _ HO2.out (by omega)).mono ?_; rintro e' wS ⟨rfl, hownS, hgS⟩)
      have hbS := Lib.hid (HB2.out.grown hgS HB2.out.size (fun k hk => by obtain rfl := Option.some.inj hk; exact HLW.out))
      obtain ⟨ts, hts⟩ : ∃ ts, ts = List.mergeSort [(n : Int)] (fun x y => decide (x ≤ y)) := ⟨_, rfl⟩
      rw [← hts] at hownS
      have HMS := Lib.hid (show ∀ x, x ∈ ts ↔ x ∈ touchD l e from fun x => by rw [hts, sort_mem]; exact (fun x => by rw [HD.out]) x)
      have HTL := Lib.hid (show ts.length ≤ 3 by rw [hts, List.length_mergeSort]; simp)
      have HOS := Lib.hid hownS
      clear hgS hownS hts
      go_wp2_with (go_at_call 71; refine (compactI _ _ _ _ _ _ HOS.out).mono ?_; rintro e' wC ⟨rfl, hownC, hgC⟩)
      go_ret
      exact ⟨_, _, _, Lib.compact ts, rfl, hbS.out.grown hgC hbS.out.size (fun k hk => by obtain rfl := Option.some.inj hk; exact HLW.out), hownC, Nat.le_trans (compact_len ts) HTL.out, fun x => by rw [compact_mem]; exact HMS.out x⟩

  by_cases h5 : e.do_ = 5
  · rw [h5] at f0
    have h5e := HE.out
    unfold edErr at h5e
    rw [if_neg (by omega), if_neg (by omega), if_neg (by omega), if_neg h4, if_pos h5] at h5e
    obtain ⟨m, t, x, y, em, et, hok⟩ := insErr_iff h5e
    have hml := (List.getElem?_eq_some_iff.1 hok.hx).1
    have HD := Lib.hid (show touchD l e = [e.at_, e.to_] ++ (if 0 < topD l (m : Int) then [topD l (m : Int)] else []) from by unfold touchD; rw [if_neg h4, if_pos h5, em])
    have HEM := Lib.hid em
    clear h4 h5 h5e et hok
    go_upto_region 7 with (at_builtin; refine wpList_ap1 _ rfl (.tmp 20) (.tmp 23) 26 rfl elemI (v := .slice (some ⟨w0.heap.size, 0, none⟩) 1 1) (D := fun _ => False) rfl (OwnF.al HO1.out _) (fun _ h => h.elim) (y := e.to_) (cs := [.int .i64 e.to_]) rfl ⟨rfl, HTO.out⟩ (cell_new w1 _ _) (by omega) (by omega) (by rw [World.size_alloc]; have := H1.out.size; omega) ?_; intro v2 w2 hown2 _ hbl2 _)
    obtain ⟨g2, c2, rfl, hg2⟩ := own_some hown2 (by omega)
    have hb2 : Below (w.heap.size + 2) w1 w2 := ((Below.refl _ _).alloc H1.out.size _).trans hbl2
    have H2 := Lib.hid (H1.out.next hb2 (Nat.le_refl _))
    have HO2 := Lib.hid hown2
    have y0 := H2.out.c0
    have y1 := H2.out.c1
    have k1 : w2.cell? ⟨w.heap.size + 1, 1, none⟩ = some (.int .i64 e.at_) := H2.out.e rfl
    rw [HEM.out] at k1
    have HRT := Lib.hid (root_any A n c l q m w2 B H2.out.doc (Nat.le_trans H2.out.le H2.out.below.size) HT.out hml)
    have HGL : Hid (w.heap.size + 2 ≤ g2) := hg2
    clear f0 f1 f2 x0 x1 e0 e1 hown2 hb2 hbl2 hg2
    go_upto_region 8 with (go_at_call 69; refine HRT.out.mono ?_; rintro e' w3 ⟨rfl, hb3⟩)
    have H3 := Lib.hid (H2.out.next hb3 H2.out.size)
    have HO3 := Lib.hid (OwnF.below HO2.out hb3 (Nat.le_refl _))
    clear hb3 y0 y1 k1
    by_cases htp : 0 < topD l (m : Int)
    · have HD2 := Lib.hid (show touchD l e = [e.at_, e.to_] ++ [topD l (m : Int)] from by rw [HD.out, if_pos htp])
      have HW : Hid ((Lit.int .i64 (topD l (m : Int))).wf = true) := by
        obtain ⟨z, hz, hzl⟩ := HT.out.top_in hml
        rw [hz]
        exact WalkArith.wf_i64 (by have := HG.out.small; omega)
      generalize topD l (m : Int) = z at *
      go_upto_region 12 with (at_builtin; refine wpList_ap1 _ rfl (.tmp 31) (.tmp 33) 26 rfl elemI (v := .slice (some ⟨g2, 0, none⟩) 2 c2) (D := fun _ => False) rfl (OwnF.al HO3.out _) (fun _ h => h.elim) (y := z) (cs := [.int .i64 z]) rfl ⟨rfl, HW.out⟩ (cell_new w3 _ _) (by omega) (by omega) (by rw [World.size_alloc]; have := H3.out.size; omega) ?_; intro v4 w4 hown4 _ hbl4 _)
      obtain ⟨g4, c4, rfl, hg4⟩ := own_some hown4 (by omega)
      have HO4 := Lib.hid (Own.down hown4 (show w.heap.size ≤ w.heap.size + 2 by omega))
      have HB4 := Lib.hid (H3.out.below.trans (((Below.refl w.heap.size _).alloc (by have := H3.out.size; omega) _).trans (hbl4.mono (by omega))))
      have HLW : Hid (w.heap.size ≤ g4) := by show _ ≤ _; omega
      clear hown4 hbl4 hg4
      go_upto_region 13 with (go_at_call 70; refine (sortI _ _ _ ([e.at_, e.to_] ++ [z]) _ _ HO4.out (by omega)).mono ?_; rintro e' wS ⟨rfl, hownS, hgS⟩)
      have hbS := Lib.hid (HB4.out.grown hgS HB4.out.size (fun k hk => by obtain rfl := Option.some.inj hk; exact HLW.out))
      obtain ⟨ts, hts⟩ : ∃ ts, ts = List.mergeSort ([e.at_, e.to_] ++ [z]) (fun x y => decide (x ≤ y)) := ⟨_, rfl⟩
      rw [← hts] at hownS
      have HMS := Lib.hid (show ∀ x, x ∈ ts ↔ x ∈ touchD l e from fun x => by rw [hts, sort_mem]; exact (fun x => by rw [HD2.out]) x)
      have HTL := Lib.hid (show ts.length ≤ 3 by rw [hts, List.length_mergeSort]; simp)
      have HOS := Lib.hid hownS
      clear hgS hownS hts
      go_wp2_with (go_at_call 71; refine (compactI _ _ _ _ _ _ HOS.out).mono ?_; rintro e' wC ⟨rfl, hownC, hgC⟩)
      go_ret
      exact ⟨_, _, _, Lib.compact ts, rfl, hbS.out.grown hgC hbS.out.size (fun k hk => by obtain rfl := Option.some.inj hk; exact HLW.out), hownC, Nat.le_trans (compact_len ts) HTL.out, fun x => by rw [compact_mem]; exact HMS.out x⟩

    · have HD2 := Lib.hid (show touchD l e = [e.at_, e.to_] from by rw [HD.out, if_neg htp, List.append_nil])
      have HO4 := Lib.hid (Own.down HO3.out (show w.heap.size ≤ w.heap.size + 2 by omega))
      have HB4 := Lib.hid H3.out.below
      have HLW : Hid (w.heap.size ≤ g2) := by have := HGL.out; show _ ≤ _; omega
      generalize topD l (m : Int) = z at *
      go_upto_region 12 with fail
      go_upto_region 13 with (go_at_call 70; refine (sortI _ _ _ [e.at_, e.to_] _ _ HO4.out (by omega)).mono ?_; rintro e' wS ⟨rfl, hownS, hgS⟩)
      have hbS := Lib.hid (HB4.out.grown hgS HB4.out.size (fun k hk => by obtain rfl := Option.some.inj hk; exact HLW.out))
      obtain ⟨ts, hts⟩ : ∃ ts, ts = List.mergeSort [e.at_, e.to_] (fun x y => decide (x ≤ y)) := ⟨_, rfl⟩
      rw [← hts] at hownS
      have HMS := Lib.hid (show ∀ x, x ∈ ts ↔ x ∈ touchD l e from fun x => by rw [hts, sort_mem]; exact (fun x => by rw [HD2.out]) x)
      have HTL := Lib.hid (show ts.length ≤ 3 by rw [hts, List.length_mergeSort]; simp)
      have HOS := Lib.hid hownS
      clear hgS hownS hts
      go_wp2_with (go_at_call 71; refine (compactI _ _ _ _ _ _ HOS.out).mono ?_; rintro e' wC ⟨rfl, hownC, hgC⟩)
      go_ret
      exact ⟨_, _, _, Lib.compact ts, rfl, hbS.out.grown hgC hbS.out.size (fun k hk => by obtain rfl := Option.some.inj hk; exact HLW.out), hownC, Nat.le_trans (compact_len ts) HTL.out, fun x => by rw [compact_mem]; exact HMS.out x⟩

  by_cases h6 : e.do_ = 6
  · have h6e := HE.out
    unfold edErr at h6e
    rw [if_neg (by omega), if_neg (by omega), if_neg (by omega), if_neg h4, if_neg h5, if_pos h6] at h6e
    obtain ⟨m, p, i, x, y, em, hr⟩ := remErr_iff HG.out h6e
    have hml := (List.getElem?_eq_some_iff.1 hr.hx).1
    have HD := Lib.hid (show touchD l e = [e.at_] ++ [x.parent] from by unfold touchD; rw [if_neg h4, if_neg h5, if_pos h6, em, parD_at hr.hx]; rfl)
    obtain ⟨b, o, rfl, hd⟩ := doc_at H1.out.doc (by have := HN.out; omega)
    have hbB : b < w1.heap.size := Nat.lt_of_lt_of_le hd.lt (Nat.le_trans H1.out.le H1.out.below.size)
    obtain ⟨_, _, _, _, _, _, hnd, _, _, _, _, k4, _⟩ := hd.at_ m x hr.hx
    have HW := Lib.hid hnd.parent
    have i1 : (0 : Int) ≤ (m : Int) := by omega
    have i2 : (m : Int) < (n : Int) := by have := HN.out; omega
    have hcap : n ≤ c := H1.out.doc.hc
    have hn63 : n ≤ 200 := by have := HG.out.small; have := HN.out; omega
    have t4 : (e.do_ == 4) = false := by simpa using h4
    rw [h6] at f0
    rw [em] at f1
    clear h4 h5 h6 h6e hr hd hnd
    go_upto_region 12 with (at_builtin; refine wpList_ap1 _ rfl (.tmp 37) (.tmp 45) 26 rfl elemI (v := .slice (some ⟨w0.heap.size, 0, none⟩) 1 1) (D := fun _ => False) rfl (OwnF.al HO1.out _) (fun _ h => h.elim) (y := x.parent) (cs := [.int .i64 x.parent]) rfl ⟨rfl, HW.out⟩ (cell_new w1 _ _) (by omega) (by omega) (by rw [World.size_alloc]; have := H1.out.size; omega) ?_; intro v2 w2 hown2 _ hbl2 _)
    obtain ⟨g2, c2, rfl, hg2⟩ := own_some hown2 (by omega)
    have HO2 := Lib.hid (Own.down hown2 (show w.heap.size ≤ w.heap.size + 2 by omega))
    have HB2 := Lib.hid (H1.out.below.trans ((((Below.refl _ _).alloc H1.out.size _).trans hbl2).mono (by omega)))
    have HLW : Hid (w.heap.size ≤ g2) := by show _ ≤ _; omega
    clear hown2 hbl2 hg2 f0 f1 f2 x0 x1 e0 e1 k4
    · go_upto_region 13 with (go_at_call 70; refine (sortI _ _ _ ([e.at_] ++ [x.parent]) _ _ HO2.out (by omega)).mono ?_; rintro e' wS ⟨rfl, hownS, hgS⟩)
      have hbS := Lib.hid (HB2.out.grown hgS HB2.out.size (fun k hk => by obtain rfl := Option.some.inj hk; exact HLW.out))
      obtain ⟨ts, hts⟩ : ∃ ts, ts = List.mergeSort ([e.at_] ++ [x.parent]) (fun x y => decide (x ≤ y)) := ⟨_, rfl⟩
      rw [← hts] at hownS
      have HMS := Lib.hid (show ∀ x, x ∈ ts ↔ x ∈ touchD l e from fun x => by rw [hts, sort_mem]; exact (fun x => by rw [HD.out]) x)
      have HTL := Lib.hid (show ts.length ≤ 3 by rw [hts, List.length_mergeSort]; simp)
      have HOS := Lib.hid hownS
      clear hgS hownS hts
      go_wp2_with (go_at_call 71; refine (compactI _ _ _ _ _ _ HOS.out).mono ?_; rintro e' wC ⟨rfl, hownC, hgC⟩)
      go_ret
      exact ⟨_, _, _, Lib.compact ts, rfl, hbS.out.grown hgC hbS.out.size (fun k hk => by obtain rfl := Option.some.inj hk; exact HLW.out), hownC, Nat.le_trans (compact_len ts) HTL.out, fun x => by rw [compact_mem]; exact HMS.out x⟩

  · have HD := Lib.hid (show touchD l e = [e.at_] from by unfold touchD; rw [if_neg h4, if_neg h5, if_neg h6])
    have t4 : (e.do_ == 4) = false := by simpa using h4
    have t5 : (e.do_ == 5) = false := by simpa using h5
    have t6 : (e.do_ == 6) = false := by simpa using h6
    have HO2 := Lib.hid (Own.down HO1.out (show w.heap.size ≤ w.heap.size + 2 by omega))
    have HB2 := Lib.hid H1.out.below
    have HLW : Hid (w.heap.size ≤ w0.heap.size) := by have := HZ.out; show _ ≤ _; omega
    clear h4 h5 h6
    go_upto_region 12 with fail
    · go_upto_region 13 with (go_at_call 70; refine (sortI _ _ _ [e.at_] _ _ HO2.out (by omega)).mono ?_; rintro e' wS ⟨rfl, hownS, hgS⟩)
      have hbS := Lib.hid (HB2.out.grown hgS HB2.out.size (fun k hk => by obtain rfl := Option.some.inj hk; exact HLW.out))
      obtain ⟨ts, hts⟩ : ∃ ts, ts = List.mergeSort [e.at_] (fun x y => decide (x ≤ y)) := ⟨_, rfl⟩
      rw [← hts] at hownS
      have HMS := Lib.hid (show ∀ x, x ∈ ts ↔ x ∈ touchD l e from fun x => by rw [hts, sort_mem]; exact (fun x => by rw [HD.out]) x)
      have HTL := Lib.hid (show ts.length ≤ 3 by rw [hts, List.length_mergeSort]; simp)
      have HOS := Lib.hid hownS
      clear hgS hownS hts
      go_wp2_with (go_at_call 71; refine (compactI _ _ _ _ _ _ HOS.out).mono ?_; rintro e' wC ⟨rfl, hownC, hgC⟩)
      go_ret
      exact ⟨_, _, _, Lib.compact ts, rfl, hbS.out.grown hgC hbS.out.size (fun k hk => by obtain rfl := Option.some.inj hk; exact HLW.out), hownC, Nat.le_trans (compact_len ts) HTL.out, fun x => by rw [compact_mem]; exact HMS.out x⟩

end Go.Proofs.YthkeciodjomakaaDoor
