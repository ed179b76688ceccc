/-
The walk of ApartTwice.
-/
import Derived.Test.YthkeciodjomakaaDoorApartBegun
import Derived.Test.YthkeciodjomakaaDoorDocBox
import Derived.Deep.DeepCutAuto
namespace Go.Proofs.YthkeciodjomakaaDoor
open Go.RowKit Go.Cl
attribute [local go_sem ↓] Go.wp_at_zero Go.wp_at_succ

theorem some_at (s : ByteArray) (n k : Nat) (w : World) (_hs : s.size ≤ 1152921504606846976) (_hn : n ≤ 1000000) (hk : min (s.size : Int) (n : Int) = (k : Int)) :
    Calls Tryd.prog 19 #[.string s, .int .i64 n] w fun e w' => e = .returned (.string (s.extract 0 k)) ∧ w' = w := by
  have hk2 : k ≤ s.size := by omega
  go_enter Tryd.func19, Tryd.ntmps19
  go_wp2_with fail
  go_ret
  exact ⟨rfl, rfl⟩
/-- A text that is set. -/
def setE (n : Int) (s : ByteArray) : Edt := ⟨3, n, 0, 0, ⟨#[]⟩, s.extract 0 (min s.size 50), begunN⟩
theorem fold_sets {n : Int} {es : List Edt} (h : ∀ e ∈ es, e.do_ = 3 ∧ e.at_ = n) {e : Edt} (he : es[es.length - 1]? = some e) : foldR es = [e] := by
  cases es with
  | nil => cases he
  | cons a r =>
    unfold foldR
    rw [List.foldl_cons, settle_short (by simp), fold_texts r (fun x hx => h x (by simp [hx])) a (h a (by simp)).1 (h a (by simp)).2]
    have h1 := (List.getElem?_eq_some_iff.1 he).2
    rw [List.getLast_eq_getElem, h1]
theorem extract_le (s : ByteArray) (a b : Nat) : (s.extract a b).size ≤ s.size := by rw [ByteArray.size_extract]; omega
theorem set_row {w : World} {n : Int} {s : ByteArray} (hn : (Lit.int .i64 n).wf = true) (hs : s.size ≤ 1152921504606846976) : tEdt.rep w (fun _ => False) (setE n s) (edtCells (setE n s) none 0 0 none 0 0).toList :=
  edt_rep (begun_ok rfl hn rfl rfl (Nat.zero_le _) (Nat.le_trans (extract_le _ _ _) hs)) rfl
/-- What Fold tells, in one form. -/
def foD (l : List Nd) (es : List Edt) : List Edt := if (alR l es).2.2 = 0 then (foldR es).reverse else []
theorem fo_uni {w w' : World} {l : List Nd} {es : List Edt} {e' : Ending} (h : FoPost w l es e' w') : Below w.heap.size w w' ∧ ∃ A' N c', N = (foD l es).length ∧ e' = .returned (.tuple #[.slice A' N c', .int .i64 (alR l es).2.2]) ∧ Sl tEdt w' (rg w.heap.size w'.heap.size) A' N c' (foD l es) := by
  obtain ⟨hb, h⟩ := h
  unfold foD
  rcases h with ⟨h0, h⟩ | ⟨h0, A', c', h, hs⟩
  · rw [if_neg h0]
    exact ⟨hb, none, 0, 0, rfl, h, Sl.nil⟩
  · rw [if_pos h0, h0]
    exact ⟨hb, A', _, c', (List.length_reverse).symm, h, hs⟩
theorem fo_twice {l : List Nd} {es : List Edt} (h : (alR l es).2.2 = 0) : (alR l (foD l es)).2.2 = 0 ∧ (foD l (foD l es)).length = (foD l es).length := by
  have h1 : foD l es = (foldR es).reverse := if_pos h
  have h2 : (alR l (foldR es).reverse).2.2 = 0 := by rw [fold_all h]
  rw [h1]
  refine ⟨h2, ?_⟩
  unfold foD
  rw [if_pos h2, foldR_twice]
set_option maxRecDepth 100000 in
set_option maxHeartbeats 8000000 in
theorem apartTwice_walk (A : Option Addr) (n c : Nat) (l : List Nd) (q : Bool) (A2 : Option Addr) (m2 c2 : Nat) (es : List Edt) (z : Int) (A3 : Option Addr) (m3 c3 : Nat) (ts : List ByteArray) (w : World) (B : Nat) (hl : Sl tNd w (lt B) A n c l) (hes : Sl tEdt w (lt B) A2 m2 c2 es) (hz : (Lit.int .i64 z).wf = true) (hts : Sl tStr w (lt B) A3 m3 c3 ts) (hB : B ≤ w.heap.size) :
    Calls Tryd.prog 5 #[.agg #[.slice A n c, .bool q], .slice A2 m2 c2, .int .i64 z, .slice A3 m3 c3] w fun e w' => e = .returned (.bool true) ∧ Below w.heap.size w w' := by
  obtain ⟨w0, hw0⟩ : ∃ w0, w0 = w.alloc (.cells #[.slice A n c, .bool q] 24) := ⟨_, rfl⟩
  have hbx : w0.heap[w.heap.size]? = some (.cells #[.slice A n c, .bool q] 24 (0, 0)) := by rw [hw0]; exact heap_alloc_new w _
  have b0 : w0.cell? ⟨w.heap.size, 0, none⟩ = some (.slice A n c) := cell_blk hbx rfl
  have b1 : w0.cell? ⟨w.heap.size, 1, none⟩ = some (.bool q) := cell_blk hbx rfl
  have hb0 : Below w.heap.size w w0 := by rw [hw0]; exact (Below.refl _ _).alloc (Nat.le_refl _) _
  have hz0 : w0.heap.size = w.heap.size + 1 := by rw [hw0]; exact World.size_alloc w _
  have HB0 := Lib.hid hb0
  have HBW : Hid (B ≤ w.heap.size) := hB
  have HZW := Lib.hid hz
  obtain ⟨k, hk, hkc, hkn⟩ : ∃ k : Nat, min (n : Int) 40 = (k : Int) ∧ k ≤ c ∧ k ≤ n := ⟨min n 40, by omega, by have := hl.hc; omega, by omega⟩
  obtain ⟨k2, hk2, hk2n, hk220⟩ : ∃ k2 : Nat, min (m2 : Int) 40 = (k2 : Int) ∧ k2 ≤ m2 ∧ k2 ≤ 40 := ⟨min m2 40, by omega, by omega, by omega⟩
  obtain ⟨k3, hk3, hk3n, hk320⟩ : ∃ k3 : Nat, min (m3 : Int) 10 = (k3 : Int) ∧ k3 ≤ m3 ∧ k3 ≤ 10 := ⟨min m3 10, by omega, by omega, by omega⟩
  have hm2c := hes.hc
  have hm3c := hts.hc
  have hm263 := hes.small
  have hm363 := hts.small
  have hk2c : k2 ≤ c2 := by omega
  have hk3c : k3 ≤ c3 := by omega
  have HF := Lib.hid (few_any A n c k q 40 w0.drew hk hkc)
  have HZ0 := Lib.hid hz0
  have HL := Lib.hid (hl.cut_to hkn)
  have HES := Lib.hid (hes.cut_to hk2n)
  have HTS := Lib.hid (hts.cut_to hk3n)
  clear hb0 hl hes hts hB hk hz0 hz
  go_enter Tryd.func5, Tryd.ntmps5
  go_upto_region 1 with fail
  rw [← hw0]
  clear hw0
  refine wp_region_G (S := fun w' : World => w'.cell? ⟨w.heap.size, 0, none⟩ = some (.slice A n c) ∧ w'.cell? ⟨w.heap.size, 1, none⟩ = some (.bool q)) (T := [12, 13, 14]) (by kernel_rfl) ?_
  have hS : (fun w' : World => w'.cell? ⟨w.heap.size, 0, none⟩ = some (.slice A n c) ∧ w'.cell? ⟨w.heap.size, 1, none⟩ = some (.bool q)) w0.drew := ⟨b0, b1⟩
  refine wpAnyG_take (i := 0) (v := ?_) rfl (by kernel_rfl) (by kernel_rfl) (by kernel_rfl) (by kernel_rfl) (fun _ _ _ h => h) hS rfl ?_ ?_
  rotate_left
  · intro w' hSw
    (try dsimp only at hSw)
    first | (go_simp; done) | (go_simp; with_reducible rfl)
  refine wpAnyG_pure (i := 2) (v := ?_) rfl (by kernel_rfl) (by kernel_rfl) (by kernel_rfl) (fun _ _ _ h => h) rfl ?_ ?_
  rotate_left
  · intro w'
    first | (go_simp; done) | (go_simp; with_reducible rfl)
  refine wpAnyG_pure (i := 3) (v := ?_) rfl (by kernel_rfl) (by kernel_rfl) (by kernel_rfl) (fun _ _ _ h => h) rfl ?_ ?_
  rotate_left
  · intro w'
    first | (go_simp; done) | (go_simp; with_reducible rfl)
  refine wpAnyG_pure (i := 4) (v := ?_) rfl (by kernel_rfl) (by kernel_rfl) (by kernel_rfl) (fun _ _ _ h => h) rfl ?_ ?_
  rotate_left
  · intro w'
    first | (go_simp; done) | (go_simp; with_reducible rfl)
  refine wpAnyG_pure (i := 5) (v := ?_) rfl (by kernel_rfl) (by kernel_rfl) (by kernel_rfl) (fun _ _ _ h => h) rfl ?_ ?_
  rotate_left
  · intro w'
    first | (go_simp; done) | (go_simp; with_reducible rfl)
  refine wpAnyG_pure (i := 6) (v := ?_) rfl (by kernel_rfl) (by kernel_rfl) (by kernel_rfl) (fun _ _ _ h => h) rfl ?_ ?_
  rotate_left
  · intro w'
    first | (go_simp; done) | (go_simp; with_reducible rfl)
  refine wpAnyG_pure (i := 7) (v := ?_) rfl (by kernel_rfl) (by kernel_rfl) (by kernel_rfl) (fun _ _ _ h => h) rfl ?_ ?_
  rotate_left
  · intro w'
    first | (go_simp; done) | (go_simp; with_reducible rfl)
  refine wpAnyG_pure (i := 8) (v := ?_) rfl (by kernel_rfl) (by kernel_rfl) (by kernel_rfl) (fun _ _ _ h => h) rfl ?_ ?_
  rotate_left
  · intro w'
    first | (go_simp; done) | (go_simp; with_reducible rfl)
  refine wpAnyG_pure (i := 9) (v := ?_) rfl (by kernel_rfl) (by kernel_rfl) (by kernel_rfl) (fun _ _ _ h => h) rfl ?_ ?_
  rotate_left
  · intro w'
    first | (go_simp; done) | (go_simp; with_reducible rfl)
  refine wpAnyG_pure (i := 10) (v := ?_) rfl (by kernel_rfl) (by kernel_rfl) (by kernel_rfl) (fun _ _ _ h => h) rfl ?_ ?_
  rotate_left
  · intro w'
    first | (go_simp; done) | (go_simp; with_reducible rfl)
  refine wpAnyG_pure (i := 11) (v := ?_) rfl (by kernel_rfl) (by kernel_rfl) (by kernel_rfl) (fun _ _ _ h => h) rfl ?_ ?_
  rotate_left
  · intro w'
    first | (go_simp; done) | (go_simp; with_reducible rfl)
  refine wpAnyG_one (i := 1) (by kernel_rfl) rfl rfl (fun K hK => ?_)
  go_simp
  go_at_call 11
  refine HF.out.mono ?_
  rintro e w1 ⟨rfl, hb1⟩
  have hb01 : Below w0.heap.size w0 w1 := ((Below.refl _ w0).drew).trans hb1
  have hbx1 : w1.heap[w.heap.size]? = some (.cells #[.slice A n c, .bool q] 24 (0, 0)) := (hb01.block _ (by have := HZ0.out; omega)).trans hbx
  have y0 := cell_blk (i := 0) hbx1 rfl
  have y1 := cell_blk (i := 1) hbx1 rfl
  have z0 := free_blk (i := 0) hbx1
  have z1 := free_blk (i := 1) hbx1
  go_wp2_with fail
  refine hK.out _ _ (fun _ _ => ⟨y0, y1⟩) ?_
  clear hK K hS
  refine wpAnyG_one (i := 12) (by kernel_rfl) rfl rfl (fun K hK => ?_)
  go_simp
  refine hK.out _ _ (fun h => absurd (by decide) h) ?_
  clear hK K
  obtain ⟨w2, hw2⟩ : ∃ w2, w2 = (w1.setCell ⟨w.heap.size, 0, none⟩ (.slice A k c)).setCell ⟨w.heap.size, 1, none⟩ (.bool q) := ⟨_, rfl⟩
  rw [← hw2]
  have hb2 : Below w.heap.size w w2 := by rw [hw2]; exact ((HB0.out.trans (hb01.mono HB0.out.size)).setCell (Nat.le_refl _) _).setCell (Nat.le_refl _) _
  have hbx2 : w2.heap[w.heap.size]? = some (.cells #[.slice A k c, .bool q] 24 (0, 0)) := by rw [hw2]; exact set_blk (set_blk hbx1 _) _
  have H2 : Hid (DB w B A k c q (l.take k) w2) := ⟨hb2, hbx2, HL.out.below hb2 HBW.out, Nat.le_trans HBW.out hb2.size⟩
  have HES2 := Lib.hid (HES.out.below hb2 HBW.out)
  have HTS2 := Lib.hid (HTS.out.below hb2 HBW.out)
  clear hw2 hb01 hbx1 y0 y1 z0 z1 hb1 hb2 hbx2 hbx b0 b1 HB0 HF HZ0 hk2 hk3 hk2n hk3n hm263 hm363 hm2c hm3c HL HES HTS
  refine wpAnyG_one (i := 13) (by kernel_rfl) rfl rfl (fun K hK => ?_)
  go_simp
  refine hK.out _ _ (fun _ h => h) ?_
  clear hK K
  refine wpAnyG_one (i := 14) (by kernel_rfl) rfl rfl (fun K hK => ?_)
  go_simp
  refine hK.out _ _ (fun _ h => h) ?_
  clear hK K
  refine wpAnyG_done (by kernel_rfl) ?_ _
  generalize l.take k = l at *
  generalize es.take k2 = es at *
  generalize ts.take k3 = ts at *
  have HF1 := Lib.hid (fold_any A k c l q A2 k2 c2 es w2 B H2.out.doc HES2.out H2.out.le)
  have HFN := Lib.hid (fun (u : World) (h : DB w B A k c q l u) (A9 : Option Addr) (n9 c9 : Nat) (fs : List Edt) (hs : Sl tEdt u (lt u.heap.size) A9 n9 c9 fs) => fold_any A k c l q A9 n9 c9 fs u u.heap.size (h.doc.up h.le) hs (Nat.le_refl _))
  have x0 := H2.out.c0
  have x1 := H2.out.c1
  have HTN := Lib.hid HTS2.out.hn
  have HTB : Hid (B ≤ w2.heap.size) := H2.out.le
  go_upto_region 3 with (go_at_call 18; refine HF1.out.mono ?_; rintro e' w3 h3; obtain ⟨hb3, A5, N5, c5, hn5, rfl, hs5⟩ := fo_uni h3; have HN5 := Lib.hid hn5; have HH5 := Lib.hid hs5; clear hn5 hs5 h3)
  have H3 := Lib.hid (H2.out.next hb3)
  have HT2 := Lib.hid (fun (h : (alR l es).2.2 = 0) => fo_twice h)
  obtain ⟨fs, hfs⟩ : ∃ fs, foD l es = fs := ⟨_, rfl⟩
  obtain ⟨er, her⟩ : ∃ er, (alR l es).2.2 = er := ⟨_, rfl⟩
  rw [hfs] at HN5 HH5 HT2
  rw [her] at HT2 ⊢
  have HS5 := Lib.hid (Sl.ltr HH5.out)
  have HB23 := Lib.hid hb3
  clear hb3 HH5 hfs her x0 x1 HF1
  have x0 := H3.out.c0
  have x1 := H3.out.c1
  go_upto_if 37 with fail
  go_cut [] (fun w4 => Below w3.heap.size w3 w4)
  case first =>
    by_cases her : er = 0
    · obtain ⟨h1, h2⟩ := HT2.out her
      have HF2 := Lib.hid (HFN.out w3 H3.out A5 N5 c5 fs HS5.out)
      have HE1 := Lib.hid h1
      have HE2 := Lib.hid (h2.trans HN5.out.symm)
      subst her
      clear h1 h2 HT2
      go_upto_region 5 with (go_at_call 18; refine HF2.out.mono ?_; rintro e' w4 h4; obtain ⟨hb4, A6, N6, c6, hn6, rfl, hs6⟩ := fo_uni h4; have HN6 := Lib.hid hn6; clear hn6 hs6 h4)
      obtain rfl : N6 = N5 := HN6.out.trans HE2.out
      rw [HE1.out]
      have tt : ((N6 : Int) != (N6 : Int)) = false := by simp
      go_wp2_with fail
      go_meet
      case rel => exact hb4
    · clear HT2
      go_wp2_with fail
      go_meet
      case rel => exact Below.refl _ _
  case rest =>
    obtain ⟨wq, rfl⟩ : ∃ wq : World, wq = wc := ⟨_, rfl⟩
    have HQ := Lib.hid (H3.out.next hcut)
    have HB2Q := Lib.hid (HB23.out.trans (hcut.mono HB23.out.size))
    have HTSQ := Lib.hid (HTS2.out.below HB2Q.out HTB.out)
    have HTBQ : Hid (B ≤ wq.heap.size) := HQ.out.le
    clear hcut x0 x1 HTS2 HB2Q HB23 HES2 H2 H3 HS5 HN5 HT2 HTB
    go_upto_region 9 with fail
    go_loopw [13, 14] (fun v s wr => ∃ i : Nat, i ≤ k3 ∧ s = .int .i64 (i : Int) ∧ Hid (Own tEdt wr wq.heap.size 30 (fun _ => False) v i ((ts.take i).map (setE z)) ∧ Below wq.heap.size wq wr)) (fun _ s _ => k3 - (intOf s).toNat)
    case atStart => exact ⟨0, Nat.zero_le _, rfl, Own.nil _ _ _ _, Below.refl _ _⟩
    case round =>
      obtain ⟨i, hi, rfl, HR⟩ := hrel
      have HBR := Lib.hid HR.out.2
      by_cases hlt : i < k3
      · obtain ⟨x, hx⟩ : ∃ x, ts[i]? = some x := get_some (by have := HTN.out; omega)
        obtain ⟨b3, o3, rfl, _, hc3, hsz⟩ := (HTSQ.out.below HBR.out HTBQ.out).str hx
        have HTK := Lib.hid (show (ts.take (i + 1)).map (setE z) = (ts.take i).map (setE z) ++ [setE z x] from by rw [take_snoc hx, List.map_append]; rfl)
        have HSO := Lib.hid (some_at x 50 (min x.size 50) wr hsz (by omega) (by omega))
        have HRW := Lib.hid (fun (u : World) => set_row (w := u) (n := z) (s := x) HZW.out hsz)
        have HHO := Lib.hid HR.out.1
        have i1 : (0 : Int) ≤ (i : Int) := by omega
        have i2 : (i : Int) < (k3 : Int) := by omega
        have hbs : wq.heap.size ≤ wr.heap.size := HBR.out.size
        unfold edtCells setE begunN at HRW
        obtain ⟨v50, hv50⟩ : ∃ v50, x.extract 0 (min x.size 50) = v50 := ⟨_, rfl⟩
        rw [hv50] at HSO HRW
        obtain ⟨ys, hys⟩ : ∃ ys, (ts.take i).map (setE z) = ys := ⟨_, rfl⟩
        rw [hys] at HHO
        have HE5 := Lib.hid (show setE z x = ⟨3, z, 0, 0, ⟨#[]⟩, v50, begunN⟩ by unfold setE; rw [hv50])
        have HYS := Lib.hid hys
        clear hx hsz HR hv50 hys
        go_upto_region 10 with (first | (go_at_call 19; refine HSO.out.mono ?_; rintro e' w4 ⟨rfl, rfl⟩) | (at_builtin; refine wpList_ap1 _ rfl (.tmp 59) (.tmp 67) 43 rfl elemEdt (v := u13) (n := i) (xs := ys) (base := wq.heap.size) (D := fun _ => False) rfl (Own.alloc HHO.out _ fun _ h => h.elim) (fun _ h => h.elim) rfl (HRW.out _) (cell_new _ _ _) (by omega) (by omega) (by rw [World.size_alloc]; omega) ?_; intro v9 w9 hown9 hg9 hbl9 hv9))
        have HNEW := Lib.hid (show Own tEdt w9 wq.heap.size 30 (fun _ => False) v9 (i + 1) ((ts.take (i + 1)).map (setE z)) ∧ Below wq.heap.size wq w9 from ⟨by rw [HTK.out, HE5.out, HYS.out]; exact hown9, (HBR.out.alloc HBR.out.size _).trans hbl9⟩)
        clear hown9 hg9 hbl9 hv9 hbs HRW HSO hc3
        go_wp2_with fail
        go_roundw
        case rel => exact ⟨i + 1, by omega, by go_num, HNEW⟩
        case measure => simp [intOf]; omega
      · obtain rfl : i = k3 := by omega
        have htk : ts.take i = ts := List.take_of_length_le (by have := HTN.out; omega)
        have hown := HR.out.1
        rw [htk] at hown
        obtain ⟨A9, c9, rfl⟩ := Own.form hown
        have HS9 : Hid (Sl tEdt wr (lt wr.heap.size) A9 i c9 (ts.map (setE z))) := (Own.sl hown (by decide) (by show i * 160 ≤ _; omega)).more fun k hk => hk.elim False.elim fun h => h.2
        have HD9 := Lib.hid (HQ.out.next HBR.out)
        have HF9 := Lib.hid (HFN.out wr HD9.out A9 i c9 _ HS9.out)
        have HST := Lib.hid (fun (e : Edt) (he : (ts.map (setE z))[(ts.map (setE z)).length - 1]? = some e) => (show foldR (ts.map (setE z)) = [e] ∧ e.at_ = z from ⟨fold_sets (n := z) (fun x hx => by obtain ⟨s, _, rfl⟩ := List.mem_map.1 hx; exact ⟨rfl, rfl⟩) he, by
          obtain ⟨s, _, rfl⟩ := List.mem_map.1 (List.mem_of_getElem? he)
          rfl⟩))
        obtain ⟨gs, hgs⟩ : ∃ gs, ts.map (setE z) = gs := ⟨_, rfl⟩
        rw [hgs] at HS9 HF9 HST
        have x0 := HD9.out.c0
        have x1 := HD9.out.c1
        have HGN := Lib.hid HS9.out.hn
        have hcap := HS9.out.hc
        clear htk hown hgs HR
        go_upto_region 13 with (go_at_call 18; refine HF9.out.mono ?_; rintro e' w5 ⟨hb5, ⟨her, rfl⟩ | ⟨her, A', c', rfl, hs5⟩⟩)
        · have t1 : ((alR l gs).2.2 != 0) = true := by simpa using her
          have HB5 := Lib.hid (HD9.out.below.trans (hb5.mono HD9.out.below.size))
          have HBG := Lib.hid (apartBegun_any w5)
          generalize (alR l gs).2.2 = er2 at *
          clear her hb5 x0 x1 HF9
          go_wp2_with (go_at_call 14; refine HBG.out.mono ?_; rintro e' w6 ⟨rfl, hb6⟩)
          go_ret
          exact ⟨rfl, HB5.out.trans (hb6.mono HB5.out.size)⟩
        · have HB5 := Lib.hid (HD9.out.below.trans (hb5.mono HD9.out.below.size))
          have HBG := Lib.hid (apartBegun_any w5)
          cases i with
          | zero =>
            obtain rfl : gs = [] := List.eq_nil_of_length_eq_zero HGN.out.symm
            rw [show (foldR []).length = 0 from rfl]
            clear her hb5 x0 x1 HF9 hs5
            go_wp2_with (go_at_call 14; refine HBG.out.mono ?_; rintro e' w6 ⟨rfl, hb6⟩)
            go_ret
            exact ⟨rfl, HB5.out.trans (hb6.mono HB5.out.size)⟩
          | succ j =>
            obtain ⟨e, he⟩ : ∃ e, gs[j]? = some e := get_some (by have := HGN.out; omega)
            obtain ⟨hf, hat⟩ := HST.out e (by rw [← HGN.out]; exact he)
            rw [hf] at hs5 ⊢
            obtain ⟨b1, o1, Ab, nb, cb, Aj, nj, cj, rfl, _, hok1, hc1⟩ := edt_get hs5 (i := 0) (e := e) rfl
            obtain ⟨b2, o2, Aa, na, ca, Ak, nk, ck, rfl, _, hok2, hc2⟩ := edt_get (HS9.out.below hb5 (Nat.le_refl _)) he
            have q1 : w5.cell? ⟨b1, o1 + 1, none⟩ = some (.int .i64 z) := by have h1 := hc1 1 (.int .i64 e.at_) rfl; rw [hat, Nat.zero_mul, Nat.zero_add] at h1; exact h1
            have q5 : w5.cell? ⟨b1, o1 + 5, none⟩ = some (.string e.value) := by have := hc1 5 _ rfl; rw [Nat.zero_mul, Nat.zero_add] at this; exact this
            have r5 : w5.cell? ⟨b2, o2 + j * 12 + 5, none⟩ = some (.string e.value) := by rw [Nat.add_assoc]; exact hc2 5 _ rfl
            have i1 : (0 : Int) ≤ (j : Int) := by omega
            have i2 : (j : Int) < (j : Int) + 1 := by omega
            have hcap1 := hs5.hc
            have hee : (e.value.toList == e.value.toList) = true := by simp
            have hw1 : IntKind.i64.wrap (j : Int) = (j : Int) := IntWalk.i64_in _ (by omega)
            rw [show ([e] : List Edt).length = 1 from rfl]
            obtain ⟨vv, hvv⟩ : ∃ vv, e.value = vv := ⟨_, rfl⟩
            rw [hvv] at q5 r5 hee
            clear her hb5 x0 x1 HF9 hs5 hok1 hc1 hok2 hc2 hf hat he hvv
            go_upto_region 16 with fail
            go_wp2_with (go_at_call 14; refine HBG.out.mono ?_; rintro e' w6 ⟨rfl, hb6⟩; have q1' := cell_be q1 hb6; have q5' := cell_be q5 hb6)
            go_ret
            exact ⟨rfl, HB5.out.trans (hb6.mono HB5.out.size)⟩
end Go.Proofs.YthkeciodjomakaaDoor
