/-
serial.node at an element.
-/
import Derived.Test.YtfgmfmkibjfknaaDoorSerNode
namespace Go.Proofs.YtfgmfmkibjfknaaDoor
open Go.RowKit Go.Cl
attribute [local go_sem ↓] Go.wp_at_zero Go.wp_at_succ

set_option maxRecDepth 100000 in
set_option maxHeartbeats 8000000 in
theorem snode_el (s : ByteArray) (w : World) (m : Int) (hm : maxAt w m) (hs : s.size ≤ 1000000000) (h33 : ¬ Lib.hasPrefix s.data.toList [33] = true) (h34 : ¬ Lib.hasPrefix s.data.toList [34] = true) (h45 : ¬ Lib.hasPrefix s.data.toList [45] = true) : Calls Tryd.prog 28 #[.string s] w (NodePost w (nodeR s.data.toList)) := by
  obtain ⟨w0, hw0⟩ : ∃ w0, w0 = w.alloc (.cells #[.int .i64 0, .string ⟨#[]⟩, .slice none 0 0, .string ⟨#[]⟩, .int .i64 0, .slice none 0 0] 45) := ⟨_, rfl⟩
  have hx0 : w0.heap[w.heap.size]? = some (.cells #[.int .i64 0, .string ⟨#[]⟩, .slice none 0 0, .string ⟨#[]⟩, .int .i64 0, .slice none 0 0] 45 (0, 0)) := by rw [hw0]; exact heap_alloc_new w _
  have hb0 : Below w.heap.size w w0 := by rw [hw0]; exact (Below.refl _ _).alloc (Nat.le_refl _) _
  have HX0 := Lib.hid hx0
  have HB0 := Lib.hid hb0
  have HUQ := Lib.hid fun (t : ByteArray) (ht : t.size ≤ 1000000000) u => unquote_any t u ht
  have HHP := Lib.hid fun (p : ByteArray) u => Tryd.strings_HasPrefix s p u
  clear hb0
  have HN := Lib.hid (show nodeR s.data.toList = ⟨2, bytesOf (Lib.cut s.data.toList [32]).1, attrsG (s.data.toList.length + 1) (Lib.cut s.data.toList [32]).2.1 (Lib.cut s.data.toList [32]).2.2, ⟨#[]⟩, 0, []⟩ from by unfold nodeR; rw [if_neg h33, if_neg h34, if_neg h45])
  have HH33 : Hid (∀ u, Calls Tryd.prog 25 #[.string s, .string ⟨#[33]⟩] u fun e w' => e = .returned (.bool false) ∧ w' = u) := fun u => by have h := HHP.out ⟨#[33]⟩ u; rw [show (⟨#[33]⟩ : ByteArray).data.toList = [33] from rfl, Bool.eq_false_iff.2 h33] at h; exact h
  have HH34 : Hid (∀ u, Calls Tryd.prog 25 #[.string s, .string ⟨#[34]⟩] u fun e w' => e = .returned (.bool false) ∧ w' = u) := fun u => by have h := HHP.out ⟨#[34]⟩ u; rw [show (⟨#[34]⟩ : ByteArray).data.toList = [34] from rfl, Bool.eq_false_iff.2 h34] at h; exact h
  have HH45 : Hid (∀ u, Calls Tryd.prog 25 #[.string s, .string ⟨#[45]⟩] u fun e w' => e = .returned (.bool false) ∧ w' = u) := fun u => by have h := HHP.out ⟨#[45]⟩ u; rw [show (⟨#[45]⟩ : ByteArray).data.toList = [45] from rfl, Bool.eq_false_iff.2 h45] at h; exact h
  clear h33 h34 h45 HHP HUQ hx0
  obtain ⟨nm, r0, b0, hnm, hr0, hb0, HCU⟩ := cut3 s 32 (by omega)
  have hr0d : (Lib.cut s.data.toList [32]).2.1 = r0.data.toList := by rw [hr0]; rfl
  rw [show bytesOf (Lib.cut s.data.toList [32]).1 = nm from hnm.symm, hr0d, ← hb0] at HN
  have hr0s : r0.size ≤ s.size := by
    have h := cut_len s.data.toList 32
    rw [hr0d, bytes_len, bytes_len] at h
    exact h
  have hfl : s.data.toList.length = s.size := by simp
  rw [hfl] at HN
  have HM0 := Lib.hid (show maxAt w0 m from cell_be hm HB0.out)
  clear hnm hr0 hb0 hr0d hfl
  go_enter Tryd.func28, Tryd.ntmps28
  go_upto_region 1 with fail
  rw [← hw0]
  clear hw0
  go_upto_region 10 with (go_at_call 25; (first | (with_reducible refine (HH33.out _).mono ?_) | (with_reducible refine (HH34.out _).mono ?_) | (with_reducible refine (HH45.out _).mono ?_)); rintro e' w2 ⟨rfl, hw2⟩; obtain rfl : w0 = w2 := hw2.symm)
  go_upto_region 11 with (go_at_call 26; go_loud (refine (HCU.out w0 m HM0.out).mono ?_); rintro e' w2 ⟨rfl, nn, hw2⟩; have hb2 := dN_of hw2; clear hw2)
  have hc3 := (hb2.block _ (Array.getElem?_eq_some_iff.1 HX0.out).1).trans HX0.out
  have HB3 := Lib.hid (HB0.out.trans (hb2.mono HB0.out.size))
  have f0 := free_blk (i := 0) hc3
  have f1 := free_blk (i := 1) hc3
  have f2 := free_blk (i := 2) hc3
  have f3 := free_blk (i := 3) hc3
  have f4 := free_blk (i := 4) hc3
  have f5 := free_blk (i := 5) hc3
  have o0 := cell_blk (i := 0) hc3 rfl
  have o1 := cell_blk (i := 1) hc3 rfl
  have o2 := cell_blk (i := 2) hc3 rfl
  have o3 := cell_blk (i := 3) hc3 rfl
  have o4 := cell_blk (i := 4) hc3 rfl
  have o5 := cell_blk (i := 5) hc3 rfl
  have HS := Lib.hid (set6_blk hc3 (.int .i64 2) (.string nm) (.slice none 0 0) (.string ⟨#[]⟩) (.int .i64 0) (.slice none 0 0))
  have HSB := Lib.hid (set6_below HB3.out (Nat.le_refl _) (.int .i64 2) (.string nm) (.slice none 0 0) (.string ⟨#[]⟩) (.int .i64 0) (.slice none 0 0))
  clear hc3 hb2
  go_upto_region 12 with fail
  obtain ⟨w4, hw4⟩ : ∃ w4, w4 = set6 w2 w.heap.size (.int .i64 2) (.string nm) (.slice none 0 0) (.string ⟨#[]⟩) (.int .i64 0) (.slice none 0 0) := ⟨_, rfl⟩
  rw [← hw4] at HS HSB
  unfold set6 at hw4
  rw [← hw4]
  clear hw4 f0 f1 f2 f3 f4 f5 o0 o1 o2 o3 o4 o5
  have HM4 : Hid (maxAt w4 m) := cell_be hm HSB.out
  go_loopw [13, 14] (fun rv bv wr => ∃ (r : ByteArray) (bk : Bool) (ats : List DAttr) (A : Option Addr) (c f : Nat), rv = .string r ∧ bv = .bool bk ∧ Hid (r.size < f) ∧ Hid (ats.length + r.size ≤ s.size) ∧ Hid (attrsG (s.size + 1) r0.data.toList b0 = ats ++ attrsG f r.data.toList bk) ∧ Hid (wr.heap[w.heap.size]? = some (.cells #[.int .i64 2, .string nm, .slice A ats.length c, .string ⟨#[]⟩, .int .i64 0, .slice none 0 0] 45 (0, 0))) ∧ OwnF tDA wr w.heap.size 58 (.slice A ats.length c) ats.length ats ∧ Below w.heap.size w wr) (fun rv _ _ => (match rv with | .string r => r.size | _ => 0))
  case atStart => exact ⟨r0, b0, [], none, 0, s.size + 1, rfl, rfl, Lib.hid (Nat.lt_succ_of_le hr0s), Lib.hid (by simpa using hr0s), Lib.hid (by simp), HS, OwnF.nil _ _ _, HSB.out⟩
  case round =>
    obtain ⟨r, bk, ats, A, c, f, rfl, rfl, HF, HAL, HAT, HX, hown, hb⟩ := hrel
    obtain ⟨f, rfl⟩ : ∃ g, f = g + 1 := ⟨f - 1, by have := HF.out; omega⟩
    cases bk with
    | false =>
      have HE := Lib.hid (show attrsG (s.size + 1) r0.data.toList b0 = ats from by rw [HAT.out]; exact List.append_nil _)
      have z0 := cell_blk (i := 0) HX.out rfl
      have z1 := cell_blk (i := 1) HX.out rfl
      have z2 := cell_blk (i := 2) HX.out rfl
      have z3 := cell_blk (i := 3) HX.out rfl
      have z4 := cell_blk (i := 4) HX.out rfl
      have z5 := cell_blk (i := 5) HX.out rfl
      have f0 := free_blk (i := 0) HX.out
      have f1 := free_blk (i := 1) HX.out
      have f2 := free_blk (i := 2) HX.out
      have f3 := free_blk (i := 3) HX.out
      have f4 := free_blk (i := 4) HX.out
      have f5 := free_blk (i := 5) HX.out
      go_wp2_with fail
      have HS9 := set6_blk HX.out (.int .i64 2) (.string nm) (.slice A ats.length c) (.string ⟨#[]⟩) (.int .i64 0) (.slice none 0 0)
      have HB9 := set6_below hb (Nat.le_refl _) (.int .i64 2) (.string nm) (.slice A ats.length c) (.string ⟨#[]⟩) (.int .i64 0) (.slice none 0 0)
      have HO9 := Own.kept hown (set6_grown wr w.heap.size (.int .i64 2) (.string nm) (.slice A ats.length c) (.string ⟨#[]⟩) (.int .i64 0) (.slice none 0 0)) (Or.inr (own_ne_block (by decide) hown HX.out)) (fun _ h => h.elim)
      have y0 := cell_blk (i := 0) HS9 rfl
      have y1 := cell_blk (i := 1) HS9 rfl
      have y2 := cell_blk (i := 2) HS9 rfl
      have y3 := cell_blk (i := 3) HS9 rfl
      have y4 := cell_blk (i := 4) HS9 rfl
      have y5 := cell_blk (i := 5) HS9 rfl
      unfold set6 at y0 y1 y2 y3 y4 y5 HB9 HO9
      refine bodyPost_ret (v := .agg #[.int .i64 2, .string nm, .slice A ats.length c, .string ⟨#[]⟩, .int .i64 0, .slice none 0 0]) (by simp [results, Tryd.results28, go_sem, y0, y1, y2, y3, y4, y5]) rfl ?_
      rw [HN.out, HE.out]
      exact ⟨A, c, rfl, HO9, HB9⟩
    | true =>
      obtain ⟨an, r1, b1, han, hr1, _, HC1⟩ := cut3 r 61 (by have := HAL.out; omega)
      have hr1d : (Lib.cut r.data.toList [61]).2.1 = r1.data.toList := by rw [hr1]; rfl
      have hr1s : r1.size ≤ r.size := by
        have h := cut_len r.data.toList 61
        rw [hr1d, bytes_len, bytes_len] at h
        exact h
      obtain ⟨av, r2, ok, hav, hr2, hok, HU1⟩ := unq3 r1 (by have := HAL.out; omega)
      have hstep := attrsG_true f han hr1 hav hr2 hok
      have hr2s : ok = true → r2.size + 2 ≤ r1.size := fun e => by
        have h : unquoteR r1.data.toList = ((unquoteR r1.data.toList).1, (unquoteR r1.data.toList).2.1, true) := by rw [← e, hok]
        have := unquote_len h
        rw [bytes_len] at this
        have e2 : r2.size = (unquoteR r1.data.toList).2.1.length := by rw [hr2]; exact List.size_toArray
        omega
      have HST := Lib.hid hstep
      have han1 : an.size ≤ r.size := by
        have h := cut_len1 r.data.toList 61
        have e2 : an.size = (Lib.cut r.data.toList [61]).1.length := by rw [han]; exact List.size_toArray
        rw [bytes_len] at h
        omega
      have hav1 : av.size ≤ r1.size := by
        have h := unquote_len1 r1.data.toList
        have e2 : av.size = (unquoteR r1.data.toList).1.length := by rw [hav]; exact List.size_toArray
        rw [bytes_len] at h
        omega
      obtain ⟨w5, hw5⟩ : ∃ w5, w5 = wr.alloc (.cells #[.string ⟨#[]⟩, .string ⟨#[]⟩] 58) := ⟨_, rfl⟩
      have hx5 : w5.heap[wr.heap.size]? = some (.cells #[.string ⟨#[]⟩, .string ⟨#[]⟩] 58 (0, 0)) := by rw [hw5]; exact heap_alloc_new wr _
      have hb5 : Below wr.heap.size wr w5 := by rw [hw5]; exact (Below.refl _ _).alloc (Nat.le_refl _) _
      have HX5 := Lib.hid hx5
      have HB5 := Lib.hid hb5
      have HBR := Lib.hid hb
      have HM5 := Lib.hid (show maxAt w5 m from cell_be hm (hb.trans (hb5.mono hb.size)))
      have HOW := Lib.hid hown
      clear hx5 hb5 hown hb hstep han hav hr1 hr2 hok hr1d
      go_upto_region 14 with fail
      rw [← hw5]
      clear hw5
      go_upto_region 15 with fail
      go_upto_region 16 with (go_at_call 26; go_loud (refine (HC1.out w5 m HM5.out).mono ?_); rintro e' w6 ⟨rfl, nn6, hw6⟩; have hb6 := dN_of hw6; clear hw6; have hx6 := (hb6.block _ (Array.getElem?_eq_some_iff.1 HX5.out).1).trans HX5.out; have q0 := cell_blk (i := 0) hx6 rfl; have p0 := free_blk (i := 0) hx6; have HX6 := Lib.hid hx6; have HB6 := Lib.hid (HB5.out.trans (hb6.mono HB5.out.size)); clear hx6 hb6)
      have hx6b := HX6.out
      obtain ⟨w7, hw7⟩ : ∃ w7, w7 = w6.setCell ⟨wr.heap.size, 0, none⟩ (.string an) := ⟨_, rfl⟩
      have HX7 := Lib.hid (show w7.heap[wr.heap.size]? = some (.cells #[.string an, .string ⟨#[]⟩] 58 (0, 0)) from by rw [hw7]; exact set_blk (i := 0) hx6b (.string an))
      have HB7 := Lib.hid (show Below wr.heap.size wr w7 from by rw [hw7]; exact HB6.out.setCell (p := ⟨wr.heap.size, 0, none⟩) (Nat.le_refl _) _)
      have HM7 := Lib.hid (show maxAt w7 m from cell_be hm (HBR.out.trans (HB7.out.mono HBR.out.size)))
      rw [← hw7]
      clear hw7 hx6b HX6 HB6 q0 p0
      go_upto_region 17 with (go_at_call 56; go_loud (refine (HU1.out w7).mono ?_); rintro e' w8 ⟨rfl, hb8⟩; have hx8 := (hb8.block _ (Array.getElem?_eq_some_iff.1 HX7.out).1).trans HX7.out; have q1 := cell_blk (i := 1) hx8 rfl; have p1 := free_blk (i := 1) hx8; have HX8 := Lib.hid hx8; have HB8 := Lib.hid (HB7.out.trans (hb8.mono HB7.out.size)); clear hx8 hb8)
      obtain ⟨w9, hw9⟩ : ∃ w9, w9 = w8.setCell ⟨wr.heap.size, 1, none⟩ (.string av) := ⟨_, rfl⟩
      have HX9 := Lib.hid (show w9.heap[wr.heap.size]? = some (.cells #[.string an, .string av] 58 (0, 0)) from by rw [hw9]; exact set_blk (i := 1) HX8.out (.string av))
      have HB9 := Lib.hid (show Below wr.heap.size wr w9 from by rw [hw9]; exact HB8.out.setCell (p := ⟨wr.heap.size, 1, none⟩) (Nat.le_refl _) _)
      have HBW := Lib.hid (HBR.out.trans (HB9.out.mono HBR.out.size))
      have HXN := Lib.hid ((HB9.out.block _ (Array.getElem?_eq_some_iff.1 HX.out).1).trans HX.out)
      have HO := Lib.hid (HOW.out.below HB9.out (Nat.le_refl _))
      rw [← hw9]
      clear hw9 HX8 HB8 HX7 HB7 HM7 q1 p1 HX5 HB5 HM5
      cases ok with
      | false =>
        have HE := Lib.hid (show attrsG (s.size + 1) r0.data.toList b0 = ats from by rw [HAT.out, HST.out]; exact List.append_nil _)
        have z0 := cell_blk (i := 0) HXN.out rfl
        have z1 := cell_blk (i := 1) HXN.out rfl
        have z2 := cell_blk (i := 2) HXN.out rfl
        have z3 := cell_blk (i := 3) HXN.out rfl
        have z4 := cell_blk (i := 4) HXN.out rfl
        have z5 := cell_blk (i := 5) HXN.out rfl
        have fz0 := free_blk (i := 0) HXN.out
        have fz1 := free_blk (i := 1) HXN.out
        have fz2 := free_blk (i := 2) HXN.out
        have fz3 := free_blk (i := 3) HXN.out
        have fz4 := free_blk (i := 4) HXN.out
        have fz5 := free_blk (i := 5) HXN.out
        go_wp2_with fail
        have HS9 := set6_blk HXN.out (.int .i64 2) (.string nm) (.slice A ats.length c) (.string ⟨#[]⟩) (.int .i64 0) (.slice none 0 0)
        have HB9 := set6_below HBW.out (Nat.le_refl _) (.int .i64 2) (.string nm) (.slice A ats.length c) (.string ⟨#[]⟩) (.int .i64 0) (.slice none 0 0)
        have HO9 := Own.kept HO.out (set6_grown w9 w.heap.size (.int .i64 2) (.string nm) (.slice A ats.length c) (.string ⟨#[]⟩) (.int .i64 0) (.slice none 0 0)) (Or.inr (own_ne_block (by decide) HO.out HXN.out)) (fun _ h => h.elim)
        have y0 := cell_blk (i := 0) HS9 rfl
        have y1 := cell_blk (i := 1) HS9 rfl
        have y2 := cell_blk (i := 2) HS9 rfl
        have y3 := cell_blk (i := 3) HS9 rfl
        have y4 := cell_blk (i := 4) HS9 rfl
        have y5 := cell_blk (i := 5) HS9 rfl
        unfold set6 at y0 y1 y2 y3 y4 y5 HB9 HO9
        refine bodyPost_ret (v := .agg #[.int .i64 2, .string nm, .slice A ats.length c, .string ⟨#[]⟩, .int .i64 0, .slice none 0 0]) (by simp [results, Tryd.results28, go_sem, y0, y1, y2, y3, y4, y5]) rfl ?_
        rw [HN.out, HE.out]
        exact ⟨A, c, rfl, HO9, HB9⟩
      | true =>
        have hr2s := hr2s rfl
        have HAT2 := Lib.hid (HAT.out.trans (congrArg (ats ++ ·) (HST.out.trans (if_pos rfl))))
        obtain ⟨r3, r4, b4, hr3, hr4, hb4, HC3⟩ := cut3 r2 32 (by have := HAL.out; omega)
        have hr4d : (Lib.cut r2.data.toList [32]).2.1 = r4.data.toList := by rw [hr4]; rfl
        have hr4s : r4.size ≤ r2.size := by
          have h := cut_len r2.data.toList 32
          rw [hr4d, bytes_len, bytes_len] at h
          exact h
        rw [hr4d, ← hb4] at HAT2
        clear hr3 hr4 hb4 hr4d HAT HST
        have z2 := cell_blk (i := 2) HXN.out rfl
        have q0 := cell_blk (i := 0) HX9.out rfl
        have q1 := cell_blk (i := 1) HX9.out rfl
        go_upto_region 18 with fail
        have HOD := Lib.hid (OwnF.al HO.out (.cells #[.string an, .string av] 58))
        have han2 : an.size ≤ 1152921504606846976 := by have := HAL.out; omega
        have hav2 : av.size ≤ 1152921504606846976 := by have := HAL.out; omega
        have hrep : tDA.rep (w9.alloc (.cells #[.string an, .string av] 58)) (fun _ => False) ((an, av) : DAttr) [.string an, .string av] := ⟨[.string an], [.string av], rfl, ⟨rfl, han2⟩, ⟨rfl, hav2⟩⟩
        obtain ⟨v10, w10, hrun, hown10, hg10, hbl10, hv10⟩ := run_ap1 (P := Tryd.prog) (t := 43) (ty := 43) (c := 1) (w9.alloc (.cells #[.string an, .string av] 58)) elemDA HOD.out (fun _ h => h.elim) (y := ((an, av) : DAttr)) (cs := [.string an, .string av]) hrep (cell_new w9 _ _) (by have := HAL.out; omega) (by have := HAL.out; omega) (by rw [World.size_alloc]; exact Nat.le_succ_of_le HBW.out.size)
        obtain ⟨A2, c2, rfl⟩ := Own.form hown10
        have HRUN := Lib.hid hrun
        have hx10 := (hg10.block _ (by rw [World.size_alloc]; exact Nat.lt_succ_of_lt (Array.getElem?_eq_some_iff.1 HXN.out).1) (fun e => own_ne_block (by decide) HO.out HXN.out e.symm)).trans ((Lib.alloc_old w9 _ _ (Array.getElem?_eq_some_iff.1 HXN.out).1).trans HXN.out)
        have HX10 := Lib.hid hx10
        have HO10 := Lib.hid hown10
        have HB10 := Lib.hid (HBW.out.trans (((Below.refl w.heap.size w9).alloc HBW.out.size (.cells #[.string an, .string av] 58)).trans hbl10))
        have p2 := free_blk (i := 2) hx10
        have y2 := cell_blk (i := 2) hx10 rfl
        clear hrun hx10 hown10 hg10 hbl10 hv10
        have HAL2 := Lib.hid (show (ats ++ [((an, av) : DAttr)]).length + r4.size ≤ s.size from by rw [List.length_append]; show _ + 1 + _ ≤ _; have := HAL.out; omega)
        have HF2 := Lib.hid (show r4.size < f from by have := HF.out; omega)
        have hmeas : r4.size < r.size := by omega
        go_upto_region 19 with (at_builtin; refine wpList_append_runI (by rfl) (.tmp 78) (.tmp 80) 43 rfl (.slice A ats.length c) (.slice (some ⟨w9.heap.size, 0, none⟩) 1 1) rfl rfl HRUN.out ?_)
        obtain ⟨w11, hw11⟩ : ∃ w11, w11 = w10.setCell ⟨w.heap.size, 2, none⟩ (.slice A2 (ats.length + 1) c2) := ⟨_, rfl⟩
        have hl2 : (ats ++ [((an, av) : DAttr)]).length = ats.length + 1 := by simp
        have HX11 := Lib.hid (show w11.heap[w.heap.size]? = some (.cells #[.int .i64 2, .string nm, .slice A2 (ats ++ [((an, av) : DAttr)]).length c2, .string ⟨#[]⟩, .int .i64 0, .slice none 0 0] 45 (0, 0)) from by rw [hw11, hl2]; exact set_blk (i := 2) HX10.out _)
        have HB11 := Lib.hid (show Below w.heap.size w w11 from by rw [hw11]; exact HB10.out.setCell (p := ⟨w.heap.size, 2, none⟩) (Nat.le_refl _) _)
        have HO11 := Lib.hid (show OwnF tDA w11 w.heap.size 58 (.slice A2 (ats ++ [((an, av) : DAttr)]).length c2) (ats ++ [((an, av) : DAttr)]).length (ats ++ [((an, av) : DAttr)]) from by
          rw [hw11, hl2]
          exact Own.kept HO10.out (grown_cell w10 w.heap.size 2 _) (Or.inr (own_ne_block (by decide) HO10.out HX10.out)) (fun _ h => h.elim))
        have HM11 := Lib.hid (show maxAt w11 m from cell_be hm HB11.out)
        rw [← hw11]
        clear hw11 HX10 HB10 HO10 p2 y2 HRUN HOD hrep z2 q0 q1 HX9 HXN HO HBW HB9 HOW HBR HX HF HAL hl2
        go_wp2_with (go_at_call 26; go_loud (refine (HC3.out w11 m HM11.out).mono ?_); rintro e' w12 ⟨rfl, nn12, hw12⟩; have hb12 := dN_of hw12; clear hw12)
        have HX12 := Lib.hid ((hb12.block _ (Array.getElem?_eq_some_iff.1 HX11.out).1).trans HX11.out)
        have ho12 := HO11.out.below hb12 (Nat.le_refl _)
        have hb13 := HB11.out.trans (hb12.mono HB11.out.size)
        go_roundw
        case rel => exact ⟨r4, b4, ats ++ [((an, av) : DAttr)], A2, c2, f, rfl, rfl, HF2, HAL2, Lib.hid (by rw [HAT2.out]; simp), HX12, ho12, hb13⟩
        case measure => exact hmeas
/-- serial.node, whatever the line. -/
theorem snode_any (s : ByteArray) (w : World) (m : Int) (hm : maxAt w m) (hs : s.size ≤ 1000000000) : Calls Tryd.prog 28 #[.string s] w (NodePost w (nodeR s.data.toList)) := by
  by_cases h33 : Lib.hasPrefix s.data.toList [33] = true
  · exact snode_33 s w hs h33
  by_cases h34 : Lib.hasPrefix s.data.toList [34] = true
  · exact snode_34 s w hs h33 h34
  by_cases h45 : Lib.hasPrefix s.data.toList [45] = true
  · exact snode_45 s w hs h33 h34 h45
  exact snode_el s w m hm hs h33 h34 h45
end Go.Proofs.YtfgmfmkibjfknaaDoor
