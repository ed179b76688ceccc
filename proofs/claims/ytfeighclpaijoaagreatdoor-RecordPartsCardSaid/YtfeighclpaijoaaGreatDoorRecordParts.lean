/-
The walk of RecordParts.
-/
import Derived.Test.YtfeighclpaijoaaGreatDoorRecHeld
import Derived.Test.YtfeighclpaijoaaGreatDoorEditLift
import Derived.Test.YtfeighclpaijoaaGreatDoorRegionW
import Derived.Deep.DeepCutAuto
namespace Go.Proofs.YtfeighclpaijoaaGreatDoor
open Go.RowKit Go.Cl
attribute [local go_sem ↓] Go.wp_at_zero Go.wp_at_succ

/-- A document that a call has told, in a box of its own. -/
def Put (w : World) (l : List Nd) (q : Bool) (v : Value) (wx : World) : Prop := ∃ Y A c, v = .pointer (some ⟨Y, 0, none⟩) ∧ Below w.heap.size w wx ∧ Held wx Y A l.length c q l
theorem put_late {w w5 : World} {l : List Nd} {a : Nat} {A : Option Addr} {c : Nat} (hb : Below w.heap.size w w5) (hs : Sl tNd w5 (rg a w5.heap.size) A l.length c l) (q : Bool) : Put w l q (.pointer (some ⟨w5.heap.size, 0, none⟩)) (w5.alloc (.cells #[.slice A l.length c, .bool q] 24)) :=
  ⟨_, A, c, rfl, hb.alloc hb.size _, Held.new (Sl.ltr hs) q⟩
theorem put_early {w w5 w6 : World} {l : List Nd} {A : Option Addr} {c : Nat} {o0 o1 : Value} (h5 : w5.heap[w.heap.size]? = some (.cells #[o0, o1] 24 (0, 0))) (hz : w5.heap.size = w.heap.size + 1) (hb5 : Below w.heap.size w w5) (hb : Below w5.heap.size w5 w6) (hs : Sl tNd w6 (rg w5.heap.size w6.heap.size) A l.length c l) (q : Bool) :
    Put w l q (.pointer (some ⟨w.heap.size, 0, none⟩)) ((w6.setCell ⟨w.heap.size, 0, none⟩ (.slice A l.length c)).setCell ⟨w.heap.size, 1, none⟩ (.bool q)) := by
  have h6 := (hb.block w.heap.size (by omega)).trans h5
  refine ⟨_, A, c, rfl, ((hb5.trans (hb.mono hb5.size)).setCell (p := ⟨w.heap.size, 0, none⟩) (Nat.le_refl _) _).setCell (p := ⟨w.heap.size, 1, none⟩) (Nat.le_refl _) _, set_blk (set_blk h6 _) _, ?_⟩
  have h7 := sl_far (sl_far hs (by omega : w.heap.size < w5.heap.size) 0 (.slice A l.length c)) (by omega : w.heap.size < w5.heap.size) 1 (.bool q)
  exact (Sl.ltr h7).up (by simp)
theorem exec_slice {P : Program} {ρ : Operand → Value} {o : Oper} {t : TypeId} {x lo : Operand} {v : Value} {w : World} (ho : o.op = .slice t x (some lo) none none) (h : (Instr.sliceAt t (ρ x) (some (ρ lo)) none none).run P w = .ok v w) : (execOp ρ o).run P w = .ok (.value v) w := by
  unfold execOp
  simp only [ho, Option.map_some, Option.map_none, Sem.run_bind, h, Result.andThen_ok, Sem.run_pure]
theorem sl_from {A : Option Addr} {n c p : Nat} (hp : p ≤ n) (hn : n ≤ c) (hnil : A = none → c = 0) : ∃ A' c', (∀ w, (Instr.sliceAt 27 (.slice A n c) (some (.int .i64 (p : Int))) none none).run Tryz.prog w = .ok (.slice A' (n - p) c') w) ∧ ∀ (W : World) (D : Nat → Prop) (ss : List Stp), Sl tStp W D A n c ss → Sl tStp W D A' (n - p) c' (ss.drop p) := by
  have hdrop : ∀ (W : World) (D : Nat → Prop) (ss : List Stp) (b o : Nat), Sl tStp W D (some ⟨b, o, none⟩) n c ss → Sl tStp W D (some ⟨b, o + p * 16, none⟩) (n - p) (c - p) (ss.drop p) := fun W D ss b o h => by
    refine ⟨by rw [List.length_drop]; have := h.hn; omega, by omega, ?_, Nat.le_trans (Nat.sub_le _ _) h.hm, by simp, fun h0 => ?_⟩
    · have h1 := h.hb
      have h2 : tStp.bytes = 200 := rfl
      rw [h2] at h1 ⊢
      omega
    · obtain ⟨b', o', cells, e, hb, hr, hc⟩ := h.at_ (by omega)
      simp only [Option.some.injEq, Addr.mk.injEq, and_true] at e
      obtain ⟨rfl, rfl⟩ := e
      refine ⟨b, o + p * 16, cells.drop (p * 16), rfl, hb, hr.drop p, fun j u hu => ?_⟩
      rw [List.getElem?_drop] at hu
      rw [Nat.add_assoc]
      exact hc _ u hu
  refine ⟨if c = p then A else A.map (·.add (p * 16)), c - p, fun w => ?_, fun W D ss h => ?_⟩
  · simp [Instr.sliceAt, Instr.slice, Instr.sliceBounds, Instr.sliceBound, run_underlying Tryz.underlying27, asIntOf, hp]
  · by_cases h0 : n - p = 0
    · refine ⟨by rw [List.length_drop]; have := h.hn; omega, by omega, by rw [h0]; simp, Nat.le_trans (Nat.sub_le _ _) h.hm, fun he => ?_, fun h1 => absurd h1 (by omega)⟩
      split at he
      · omega
      · have hA : A = none := by simpa using he
        have := hnil hA
        omega
    · obtain ⟨b, o, _, e, _⟩ := h.at_ (by omega)
      subst e
      rw [if_neg (by omega)]
      have h2 := hdrop W D ss b o h
      by_cases hp0 : p = 0
      · subst hp0
        simpa [Addr.add] using h2
      · have e3 : (Option.map (fun x : Addr => x.add (p * 16)) (some ⟨b, o, none⟩)) = some ⟨b, o + p * 16, none⟩ := by
          unfold Addr.add
          rw [Option.map_some, if_neg (by omega)]
        rw [e3]
        exact h2
set_option maxRecDepth 100000 in
set_option maxHeartbeats 8000000 in
theorem recordParts_walk (A : Option Addr) (n c : Nat) (l : List Nd) (q : Bool) (A2 : Option Addr) (m c2 : Nat) (es : List Edt) (at_ : Int) (w : World) (B : Nat) (hl : Sl tNd w (lt B) A n c l) (hes : Sl tEdt w (lt B) A2 m c2 es) (hB : B ≤ w.heap.size) (hat : (Lit.int .i64 at_).wf = true) :
    Calls Tryz.prog 3 #[.agg #[.slice A n c, .bool q], .slice A2 m c2, .int .i64 at_] w fun e w' => e = .returned (.bool true) ∧ Below w.heap.size w w' := by
  obtain ⟨w0, hw0⟩ : ∃ w0, w0 = w.alloc (.cells #[.slice A n c, .bool q] 24) := ⟨_, rfl⟩
  have hbx : w0.heap[w.heap.size]? = some (.cells #[.slice A n c, .bool q] 24 (0, 0)) := by rw [hw0]; exact heap_alloc_new w _
  have b0 : w0.cell? ⟨w.heap.size, 0, none⟩ = some (.slice A n c) := cell_blk hbx rfl
  have b1 : w0.cell? ⟨w.heap.size, 1, none⟩ = some (.bool q) := cell_blk hbx rfl
  have hb0 : Below w.heap.size w w0 := by rw [hw0]; exact (Below.refl _ _).alloc (Nat.le_refl _) _
  have hz0 : w0.heap.size = w.heap.size + 1 := by rw [hw0]; exact World.size_alloc w _
  have HB0 := Lib.hid hb0
  have HL := Lib.hid hl
  have HES := Lib.hid hes
  have HBW : Hid (B ≤ w.heap.size) := hB
  obtain ⟨k, hk, hkc, hkn⟩ : ∃ k : Nat, min (n : Int) 40 = (k : Int) ∧ k ≤ c ∧ k ≤ n := ⟨min n 40, by omega, by have := hl.hc; omega, by omega⟩
  obtain ⟨k2, hk2, hk2m, hk240⟩ : ∃ k2 : Nat, min (m : Int) 40 = (k2 : Int) ∧ k2 ≤ m ∧ k2 ≤ 40 := ⟨min m 40, by omega, by omega, by omega⟩
  have hmc := hes.hc
  have hm63 := hes.small
  have hk2c : k2 ≤ c2 := by omega
  have HF := Lib.hid (few_any A n c k q 40 w0.drew hk hkc)
  have HM0 : Hid (A2 = none → c2 = 0) := hes.nil_
  have HZ0 := Lib.hid hz0
  clear hb0 hl hes hB hk hz0
  go_enter Tryz.func3, Tryz.ntmps3
  go_upto_region 1 with fail
  rw [← hw0]
  clear hw0
  refine wp_region_G (S := fun w' : World => w'.cell? ⟨w.heap.size, 0, none⟩ = some (.slice A n c) ∧ w'.cell? ⟨w.heap.size, 1, none⟩ = some (.bool q)) (T := [7, 8]) (by kernel_rfl) ?_
  have hS : (fun w' : World => w'.cell? ⟨w.heap.size, 0, none⟩ = some (.slice A n c) ∧ w'.cell? ⟨w.heap.size, 1, none⟩ = some (.bool q)) w0.drew := ⟨b0, b1⟩
  refine wpAnyG_take (i := 0) (v := ?_) rfl (by kernel_rfl) (by kernel_rfl) (by kernel_rfl) (by kernel_rfl) (fun _ _ _ h => h) hS rfl ?_ ?_
  rotate_left
  · intro w' hSw
    (try dsimp only at hSw)
    first | (go_simp; done) | (go_simp; with_reducible rfl)
  refine wpAnyG_pure (i := 2) (v := ?_) rfl (by kernel_rfl) (by kernel_rfl) (by kernel_rfl) (fun _ _ _ h => h) rfl ?_ ?_
  rotate_left
  · intro w'
    first | (go_simp; done) | (go_simp; with_reducible rfl)
  refine wpAnyG_pure (i := 3) (v := ?_) rfl (by kernel_rfl) (by kernel_rfl) (by kernel_rfl) (fun _ _ _ h => h) rfl ?_ ?_
  rotate_left
  · intro w'
    first | (go_simp; done) | (go_simp; with_reducible rfl)
  refine wpAnyG_pure (i := 4) (v := ?_) rfl (by kernel_rfl) (by kernel_rfl) (by kernel_rfl) (fun _ _ _ h => h) rfl ?_ ?_
  rotate_left
  · intro w'
    first | (go_simp; done) | (go_simp; with_reducible rfl)
  refine wpAnyG_pure (i := 5) (v := ?_) rfl (by kernel_rfl) (by kernel_rfl) (by kernel_rfl) (fun _ _ _ h => h) rfl ?_ ?_
  rotate_left
  · intro w'
    first | (go_simp; done) | (go_simp; with_reducible rfl)
  refine wpAnyG_pure (i := 6) (v := ?_) rfl (by kernel_rfl) (by kernel_rfl) (by kernel_rfl) (fun _ _ _ h => h) rfl ?_ ?_
  rotate_left
  · intro w'
    first | (go_simp; done) | (go_simp; with_reducible rfl)
  refine wpAnyG_one (i := 1) (by kernel_rfl) rfl rfl (fun K hK => ?_)
  go_simp
  go_at_call 6
  refine HF.out.mono ?_
  rintro e w1 ⟨rfl, hb1⟩
  have hb01 : Below w0.heap.size w0 w1 := ((Below.refl _ w0).drew).trans hb1
  have hbx1 : w1.heap[w.heap.size]? = some (.cells #[.slice A n c, .bool q] 24 (0, 0)) := (hb01.block _ (by have := HZ0.out; omega)).trans hbx
  have y0 := cell_blk (i := 0) hbx1 rfl
  have y1 := cell_blk (i := 1) hbx1 rfl
  have z0 := free_blk (i := 0) hbx1
  have z1 := free_blk (i := 1) hbx1
  go_wp2_with fail
  refine hK.out _ _ (fun _ _ => ⟨y0, y1⟩) ?_
  clear hK K hS
  refine wpAnyG_one (i := 7) (by kernel_rfl) rfl rfl (fun K hK => ?_)
  go_simp
  refine hK.out _ _ (fun h => absurd (by decide) h) ?_
  clear hK K
  obtain ⟨w2, hw2⟩ : ∃ w2, w2 = (w1.setCell ⟨w.heap.size, 0, none⟩ (.slice A k c)).setCell ⟨w.heap.size, 1, none⟩ (.bool q) := ⟨_, rfl⟩
  rw [← hw2]
  have hb2 : Below w.heap.size w w2 := by rw [hw2]; exact ((HB0.out.trans (hb01.mono HB0.out.size)).setCell (Nat.le_refl _) _).setCell (Nat.le_refl _) _
  have hbx2 : w2.heap[w.heap.size]? = some (.cells #[.slice A k c, .bool q] 24 (0, 0)) := by rw [hw2]; exact set_blk (set_blk hbx1 _) _
  have hl2 := ((HL.out.cut_to hkn).below hb2 HBW.out).up (Nat.le_trans HBW.out hb2.size)
  have HKL := Lib.hid hl2.hn
  have HD2 : Hid (Held w2 w.heap.size A k c q (l.take k)) := ⟨hbx2, hl2⟩
  have hs2 := (((HES.out.cut_to hk2m).below hb2 HBW.out)).up (Nat.le_trans HBW.out hb2.size)
  have HKL2 := Lib.hid hs2.hn
  have HE2 := Lib.hid hs2
  have HB2 := Lib.hid hb2
  have HBG := Lib.hid (fun u => recordBegun_any u)
  clear hw2 hb01 hbx1 y0 y1 z0 z1 hb1 hb2 hbx2 hbx b0 b1 HB0 HL HES HF HZ0 HM0 hk2 hk2m hm63 hmc hl2 hs2 hkn HBW
  refine wpAnyG_one (i := 8) (by kernel_rfl) rfl rfl (fun K hK => ?_)
  go_simp
  refine hK.out _ _ (fun _ h => h) ?_
  clear hK K
  refine wpAnyG_done (by kernel_rfl) ?_ _
  generalize l.take k = l at *
  generalize es.take k2 = es at *
  obtain rfl := HKL.out
  obtain rfl := HKL2.out
  clear HKL HKL2
  have HDO := Lib.hid (do_any A l.length c l q A2 es.length c2 es w2 w2.heap.size HD2.out.doc HE2.out (Nat.le_refl _))
  have x0 := HD2.out.c0
  have x1 := HD2.out.c1
  go_upto_region 3 with (go_at_call 7; refine HDO.out.mono ?_; rintro e' w3 hp; obtain ⟨hb3, ⟨er, i0, her0, her, rfl⟩ | ⟨d, A3, c3, A5, c5, hal, hck, h40, hrun, rfl, hs3, ht3⟩⟩ := do_word hp; clear hp)
  · -- with an error
    have HER := Lib.hid her
    have HB4 := Lib.hid (HB2.out.trans ((hb3.alloc hb3.size (.cells #[.slice none 0 0, .bool false] 24)).mono HB2.out.size))
    obtain ⟨w4, hw4⟩ : ∃ w4, w4 = w3.alloc (.cells #[.slice none 0 0, .bool false] 24) := ⟨_, rfl⟩
    have t1 : (er != 0) = true := by simpa using her0
    rw [← hw4] at HB4 ⊢
    clear hw4 hb3 her her0 x0 x1 HDO
    go_wp2_with (go_at_call 8; refine (HBG.out _).mono ?_; rintro e' w7 ⟨rfl, hb7⟩)
    go_ret
    exact ⟨rfl, HB4.out.trans (hb7.mono HB4.out.size)⟩
  · obtain ⟨w4, hw4⟩ : ∃ w4, w4 = w3.alloc (.cells #[.slice A3 d.length c3, .bool q] 24) := ⟨_, rfl⟩
    have hb34 : Below w3.heap.size w3 w4 := by rw [hw4]; exact (Below.refl _ _).alloc (Nat.le_refl _) _
    have hb24 := hb3.trans (hb34.mono hb3.size)
    have HD4 := Lib.hid (HD2.out.next hb24)
    have HE4 := Lib.hid (sl_next HE2.out hb24)
    have HX4 := Lib.hid (show Held w4 w3.heap.size A3 d.length c3 q d from by rw [hw4]; exact Held.new hs3 q)
    have HT4 := Lib.hid (sl_next ht3 hb34)
    have HB4 := Lib.hid (HB2.out.trans (hb24.mono HB2.out.size))
    have HCK := Lib.hid hck
    have HRUN := Lib.hid hrun
    have H40 := Lib.hid h40
    rw [← hw4]
    clear hw4 hb24 hb34 hb3 hs3 ht3 hal hck hrun h40 x0 x1 HDO HD2 HE2
    by_cases hneg : at_ < 0
    · go_wp2_with (go_at_call 8; refine (HBG.out _).mono ?_; rintro e' w7 ⟨rfl, hb7⟩)
      go_ret
      exact ⟨rfl, HB4.out.trans (hb7.mono HB4.out.size)⟩
    by_cases hbig : (es.length : Int) < at_
    · go_wp2_with (go_at_call 8; refine (HBG.out _).mono ?_; rintro e' w7 ⟨rfl, hb7⟩)
      go_ret
      exact ⟨rfl, HB4.out.trans (hb7.mono HB4.out.size)⟩
    obtain ⟨p, rfl⟩ : ∃ p : Nat, at_ = (p : Int) := ⟨at_.toNat, by omega⟩
    have i1 : (0 : Int) ≤ (p : Int) := by omega
    have i2 : (p : Int) ≤ (es.length : Int) := by omega
    have hpe : p ≤ es.length := by omega
    have hpc : p ≤ c2 := by omega
    have hec5 := HT4.out.hc
    have hpc5 : p ≤ c5 := by omega
    clear hneg hbig
    have G := good_of HCK.out
    obtain ⟨lk, hr1, hr2⟩ := run_part HRUN.out p
    obtain ⟨hp1, hp2⟩ := steps_part hpe hr1
    have Gk := runE_good _ _ _ G hr1
    obtain ⟨A6, c6, hsl, hsd⟩ := sl_from (p := p) hpe hec5 HT4.out.nil_
    have HSL := Lib.hid hsl
    have HT6 := Lib.hid (hsd _ _ _ HT4.out)
    have HTP := Lib.hid (HT4.out.cut_to hpe)
    have HEP := Lib.hid (HE4.out.cut_to hpe)
    have HUN := Lib.hid (fun (W : World) (hb : Below w4.heap.size w4 W) => undo_any A3 d.length c3 d q A6 (es.length - p) c6 ((stepsD l es).drop p) W W.heap.size (HX4.out.next hb).doc (sl_next HT6.out hb) (Nat.le_refl _) (by rw [List.length_drop, steps_len]; have := H40.out; omega) (by rw [hp2]; exact undoes_steps Gk hr2) lk (by rw [hp2]; exact un_steps _ _ _ Gk hr2))
    have HUN2 := Lib.hid (fun (W : World) (A : Option Addr) (c : Nat) (hb : Below w4.heap.size w4 W) (hd : Sl tNd W (lt W.heap.size) A lk.length c lk) => undo_any A lk.length c lk q A5 p c5 ((stepsD l es).take p) W W.heap.size hd (sl_next HTP.out hb) (Nat.le_refl _) (by rw [List.length_take, steps_len]; have := H40.out; omega) (by rw [hp1]; exact undoes_steps G hr1) l (by rw [hp1]; exact un_steps _ _ _ G hr1))
    have HAL := Lib.hid (fun (W : World) (hb : Below w4.heap.size w4 W) => show Calls Tryz.prog 10 #[.agg #[.slice A l.length c, .bool q], .slice A2 p c2] W (AlPost W l q (es.take p)) from all_any A l.length c l q A2 p c2 (es.take p) W W.heap.size (HD4.out.next hb).doc (sl_next HEP.out hb) (Nat.le_refl _))
    have HALR := Lib.hid (al_of_run HCK.out (by rw [List.length_take]; have := H40.out; omega : (es.take p).length ≤ 40) hr1)
    have x0 := HX4.out.c0
    have x1 := HX4.out.c1
    clear G hr1 hr2 hp1 hp2 Gk hsl hsd
    go_upto_region 5 with fail
    go_cut [11, 12] (fun v nv wx => Put w4 lk q v wx ∧ nv = .int .i64 0)
    case first =>
      refine wp_region_G (S := fun w' : World => w'.cell? ⟨w3.heap.size, 0, none⟩ = some (.slice A3 d.length c3) ∧ w'.cell? ⟨w3.heap.size, 1, none⟩ = some (.bool q)) (T := [9, 10]) (by kernel_rfl) ?_
      have hS : (fun w' : World => w'.cell? ⟨w3.heap.size, 0, none⟩ = some (.slice A3 d.length c3) ∧ w'.cell? ⟨w3.heap.size, 1, none⟩ = some (.bool q)) w4.drew := ⟨x0, x1⟩
      refine wpAnyG_take (i := 0) (v := ?_) rfl (by kernel_rfl) (by kernel_rfl) (by kernel_rfl) (by kernel_rfl) (fun _ _ _ h => h) hS rfl ?_ ?_
      rotate_left
      · intro w' hSw
        (try dsimp only at hSw)
        first | (go_simp; done) | (go_simp; with_reducible rfl)
      refine wpAnyG_pure (i := 1) (v := ?_) rfl (by kernel_rfl) (by kernel_rfl) (by kernel_rfl) (fun _ _ _ h => h) rfl ?_ ?_
      rotate_left
      · intro w'
        first | (go_simp; done) | (go_simp; with_reducible rfl)
      refine wpAnyG_pure (i := 2) (v := ?_) rfl (by kernel_rfl) (by kernel_rfl) (by kernel_rfl) (fun _ _ _ h => h) rfl ?_ ?_
      rotate_left
      · intro w'
        first | (go_simp; done) | (go_simp; with_reducible rfl)
      refine wpAnyG_pure (i := 3) (v := .slice A6 (es.length - p) c6) rfl (by kernel_rfl) (by kernel_rfl) (by kernel_rfl) (fun _ _ _ h => h) rfl ?_ ?_
      · intro w'
        exact exec_slice rfl (HSL.out w')
      refine wpAnyG_two (i := 4) (j := 8) (by kernel_rfl) rfl rfl rfl rfl (fun K hK => ?_) (fun K hK => ?_)
      · go_simp
        go_at_call 9
        refine (HUN.out w4.drew (Below.refl _ w4).drew).mono ?_
        rintro e' w5 ⟨hb5, A7, c7, rfl, hs5⟩
        have hbr5 : Below w4.heap.size w4 w5 := (Below.refl _ w4).drew.trans hb5
        have dx0 := cell_be (w := w4.drew) x0 hb5
        have dx1 := cell_be (w := w4.drew) x1 hb5
        have HX := Lib.hid (show Put w4 lk q (.pointer (some ⟨w5.heap.size, 0, none⟩)) (w5.alloc (.cells #[.slice A7 lk.length c7, .bool q] 24)) from put_late hbr5 hs5 q)
        clear hbr5 hb5 hs5 x0 x1
        go_wp2_with fail
        refine hK.out _ _ (fun _ _ => ⟨dx0, dx1⟩) ?_
        clear hK K hS
        refine wpAnyG_pure (i := 5) (v := ?_) rfl (by kernel_rfl) (by kernel_rfl) (by kernel_rfl) (fun _ _ _ h => h) rfl ?_ ?_
        rotate_left
        · intro w'
          first | (go_simp; done) | (go_simp; with_reducible rfl)
        refine wpAnyG_pure (i := 6) (v := ?_) rfl (by kernel_rfl) (by kernel_rfl) (by kernel_rfl) (fun _ _ _ h => h) rfl ?_ ?_
        rotate_left
        · intro w'
          first | (go_simp; done) | (go_simp; with_reducible rfl)
        refine wpAnyG_pure (i := 7) (v := ?_) rfl (by kernel_rfl) (by kernel_rfl) (by kernel_rfl) (fun _ _ _ h => h) rfl ?_ ?_
        rotate_left
        · intro w'
          first | (go_simp; done) | (go_simp; with_reducible rfl)
        refine wpAnyG_one (i := 8) (by kernel_rfl) rfl rfl (fun K hK => ?_)
        go_simp
        refine hK.out _ _ (fun _ _ => ⟨cell_al dx0 _, cell_al dx1 _⟩) ?_
        clear hK K
        refine wpAnyG_one (i := 9) (by kernel_rfl) rfl rfl (fun K hK => ?_)
        go_simp
        refine hK.out _ _ (fun h => absurd (by decide) h) ?_
        clear hK K
        refine wpAnyG_one (i := 10) (by kernel_rfl) rfl rfl (fun K hK => ?_)
        go_simp
        refine hK.out _ _ (fun _ h => h) ?_
        clear hK K
        refine wpAnyG_done (by kernel_rfl) ?_ _
        go_wp2_with fail
        go_meet
        case rel => exact ⟨HX.out, rfl⟩
      · go_simp
        refine hK.out _ _ (fun _ _ => ⟨cell_al (w := w4.drew) x0 _, cell_al (w := w4.drew) x1 _⟩) ?_
        clear hK K hS
        obtain ⟨wn, hwn⟩ : ∃ wn, wn = w4.drew.alloc (.cells #[.slice none 0 0, .bool false] 24) := ⟨_, rfl⟩
        have hbn : Below w4.heap.size w4 wn := by rw [hwn]; exact (Below.refl _ w4).drew.alloc (Nat.le_refl _) _
        have hzn : wn.heap.size = w4.heap.size + 1 := by rw [hwn]; exact World.size_alloc w4.drew _
        have hxn : wn.heap[w4.heap.size]? = some (.cells #[.slice none 0 0, .bool false] 24 (0, 0)) := by rw [hwn]; exact heap_alloc_new w4.drew _
        have x0n := cell_be (w := w4) x0 hbn
        have x1n := cell_be (w := w4) x1 hbn
        change wpAnyG _ _ _ _ _ _ _ _ _ (w4.drew.alloc (.cells #[.slice none 0 0, .bool false] 24))
        rw [← hwn]
        clear hwn x0 x1
        refine wpAnyG_one (i := 4) (by kernel_rfl) rfl rfl (fun K hK => ?_)
        go_simp
        go_at_call 9
        refine (HUN.out wn hbn).mono ?_
        rintro e' w5 ⟨hb5, A7, c7, rfl, hs5⟩
        have dx0 := cell_be x0n hb5
        have dx1 := cell_be x1n hb5
        have hO := (hb5.block _ (by rw [hzn]; exact Nat.lt_succ_self _)).trans hxn
        have g1 := cell_blk (i := 0) hO rfl
        have g2 := cell_blk (i := 1) hO rfl
        have g3 := free_blk (i := 0) hO
        have g4 := free_blk (i := 1) hO
        have HX := Lib.hid (show Put w4 lk q (.pointer (some ⟨w4.heap.size, 0, none⟩)) ((w5.setCell ⟨w4.heap.size, 0, none⟩ (.slice A7 lk.length c7)).setCell ⟨w4.heap.size, 1, none⟩ (.bool q)) from put_early hxn hzn hbn hb5 hs5 q)
        clear hbn hzn hxn hO hb5 hs5 x0n x1n
        go_wp2_with fail
        refine hK.out _ _ (fun _ _ => ⟨dx0, dx1⟩) ?_
        clear hK K
        refine wpAnyG_pure (i := 5) (v := ?_) rfl (by kernel_rfl) (by kernel_rfl) (by kernel_rfl) (fun _ _ _ h => h) rfl ?_ ?_
        rotate_left
        · intro w'
          first | (go_simp; done) | (go_simp; with_reducible rfl)
        refine wpAnyG_pure (i := 6) (v := ?_) rfl (by kernel_rfl) (by kernel_rfl) (by kernel_rfl) (fun _ _ _ h => h) rfl ?_ ?_
        rotate_left
        · intro w'
          first | (go_simp; done) | (go_simp; with_reducible rfl)
        refine wpAnyG_pure (i := 7) (v := ?_) rfl (by kernel_rfl) (by kernel_rfl) (by kernel_rfl) (fun _ _ _ h => h) rfl ?_ ?_
        rotate_left
        · intro w'
          first | (go_simp; done) | (go_simp; with_reducible rfl)
        refine wpAnyG_one (i := 9) (by kernel_rfl) rfl rfl (fun K hK => ?_)
        go_simp
        refine hK.out _ _ (fun h => absurd (by decide) h) ?_
        clear hK K
        refine wpAnyG_one (i := 10) (by kernel_rfl) rfl rfl (fun K hK => ?_)
        go_simp
        refine hK.out _ _ (fun _ h => h) ?_
        clear hK K
        refine wpAnyG_done (by kernel_rfl) ?_ _
        go_wp2_with fail
        go_meet
        case rel => exact ⟨HX.out, rfl⟩
    case rest =>
      obtain ⟨⟨Y, A8, c8, rfl, hb8, hy8⟩, rfl⟩ := hcut
      obtain ⟨w8, rfl⟩ : ∃ w8 : World, w8 = wc := ⟨_, rfl⟩
      have HB8 := Lib.hid hb8
      have HY8 := Lib.hid hy8
      have x0 := hy8.c0
      have x1 := hy8.c1
      clear hb8 hy8 HUN
      have HCX := Lib.hid (fun (W : World) (hb : Below w8.heap.size w8 W) => HUN2.out W A8 c8 (HB8.out.trans (hb.mono HB8.out.size)) (HY8.out.next hb).doc)
      go_upto_region 6 with fail
      go_cut [13, 14] (fun v nv wx => Put w8 l q v wx ∧ nv = .int .i64 0)
      case first =>
        refine wp_region_G (S := fun w' : World => w'.cell? ⟨Y, 0, none⟩ = some (.slice A8 lk.length c8) ∧ w'.cell? ⟨Y, 1, none⟩ = some (.bool q)) (T := [9, 10]) (by kernel_rfl) ?_
        have hS : (fun w' : World => w'.cell? ⟨Y, 0, none⟩ = some (.slice A8 lk.length c8) ∧ w'.cell? ⟨Y, 1, none⟩ = some (.bool q)) w8.drew := ⟨x0, x1⟩
        refine wpAnyG_take (i := 0) (v := ?_) rfl (by kernel_rfl) (by kernel_rfl) (by kernel_rfl) (by kernel_rfl) (fun _ _ _ h => h) hS rfl ?_ ?_
        rotate_left
        · intro w' hSw
          (try dsimp only at hSw)
          first | (go_simp; done) | (go_simp; with_reducible rfl)
        refine wpAnyG_pure (i := 1) (v := ?_) rfl (by kernel_rfl) (by kernel_rfl) (by kernel_rfl) (fun _ _ _ h => h) rfl ?_ ?_
        rotate_left
        · intro w'
          first | (go_simp; done) | (go_simp; with_reducible rfl)
        refine wpAnyG_pure (i := 2) (v := ?_) rfl (by kernel_rfl) (by kernel_rfl) (by kernel_rfl) (fun _ _ _ h => h) rfl ?_ ?_
        rotate_left
        · intro w'
          first | (go_simp; done) | (go_simp; with_reducible rfl)
        refine wpAnyG_pure (i := 3) (v := ?_) rfl (by kernel_rfl) (by kernel_rfl) (by kernel_rfl) (fun _ _ _ h => h) rfl ?_ ?_
        rotate_left
        · intro w'
          first | (go_simp; done) | (go_simp; with_reducible rfl)
        refine wpAnyG_two (i := 4) (j := 8) (by kernel_rfl) rfl rfl rfl rfl (fun K hK => ?_) (fun K hK => ?_)
        · go_simp
          go_at_call 9
          refine (HCX.out w8.drew (Below.refl _ w8).drew).mono ?_
          rintro e' w5 ⟨hb5, A7, c7, rfl, hs5⟩
          have hbr5 : Below w8.heap.size w8 w5 := (Below.refl _ w8).drew.trans hb5
          have dx0 := cell_be (w := w8.drew) x0 hb5
          have dx1 := cell_be (w := w8.drew) x1 hb5
          have HX := Lib.hid (show Put w8 l q (.pointer (some ⟨w5.heap.size, 0, none⟩)) (w5.alloc (.cells #[.slice A7 l.length c7, .bool q] 24)) from put_late hbr5 hs5 q)
          clear hbr5 hb5 hs5 x0 x1
          go_wp2_with fail
          refine hK.out _ _ (fun _ _ => ⟨dx0, dx1⟩) ?_
          clear hK K hS
          refine wpAnyG_pure (i := 5) (v := ?_) rfl (by kernel_rfl) (by kernel_rfl) (by kernel_rfl) (fun _ _ _ h => h) rfl ?_ ?_
          rotate_left
          · intro w'
            first | (go_simp; done) | (go_simp; with_reducible rfl)
          refine wpAnyG_pure (i := 6) (v := ?_) rfl (by kernel_rfl) (by kernel_rfl) (by kernel_rfl) (fun _ _ _ h => h) rfl ?_ ?_
          rotate_left
          · intro w'
            first | (go_simp; done) | (go_simp; with_reducible rfl)
          refine wpAnyG_pure (i := 7) (v := ?_) rfl (by kernel_rfl) (by kernel_rfl) (by kernel_rfl) (fun _ _ _ h => h) rfl ?_ ?_
          rotate_left
          · intro w'
            first | (go_simp; done) | (go_simp; with_reducible rfl)
          refine wpAnyG_one (i := 8) (by kernel_rfl) rfl rfl (fun K hK => ?_)
          go_simp
          refine hK.out _ _ (fun _ _ => ⟨cell_al dx0 _, cell_al dx1 _⟩) ?_
          clear hK K
          refine wpAnyG_one (i := 9) (by kernel_rfl) rfl rfl (fun K hK => ?_)
          go_simp
          refine hK.out _ _ (fun h => absurd (by decide) h) ?_
          clear hK K
          refine wpAnyG_one (i := 10) (by kernel_rfl) rfl rfl (fun K hK => ?_)
          go_simp
          refine hK.out _ _ (fun _ h => h) ?_
          clear hK K
          refine wpAnyG_done (by kernel_rfl) ?_ _
          go_wp2_with fail
          go_meet
          case rel => exact ⟨HX.out, rfl⟩
        · go_simp
          refine hK.out _ _ (fun _ _ => ⟨cell_al (w := w8.drew) x0 _, cell_al (w := w8.drew) x1 _⟩) ?_
          clear hK K hS
          obtain ⟨wn, hwn⟩ : ∃ wn, wn = w8.drew.alloc (.cells #[.slice none 0 0, .bool false] 24) := ⟨_, rfl⟩
          have hbn : Below w8.heap.size w8 wn := by rw [hwn]; exact (Below.refl _ w8).drew.alloc (Nat.le_refl _) _
          have hzn : wn.heap.size = w8.heap.size + 1 := by rw [hwn]; exact World.size_alloc w8.drew _
          have hxn : wn.heap[w8.heap.size]? = some (.cells #[.slice none 0 0, .bool false] 24 (0, 0)) := by rw [hwn]; exact heap_alloc_new w8.drew _
          have x0n := cell_be (w := w8) x0 hbn
          have x1n := cell_be (w := w8) x1 hbn
          change wpAnyG _ _ _ _ _ _ _ _ _ (w8.drew.alloc (.cells #[.slice none 0 0, .bool false] 24))
          rw [← hwn]
          clear hwn x0 x1
          refine wpAnyG_one (i := 4) (by kernel_rfl) rfl rfl (fun K hK => ?_)
          go_simp
          go_at_call 9
          refine (HCX.out wn hbn).mono ?_
          rintro e' w5 ⟨hb5, A7, c7, rfl, hs5⟩
          have dx0 := cell_be x0n hb5
          have dx1 := cell_be x1n hb5
          have hO := (hb5.block _ (by rw [hzn]; exact Nat.lt_succ_self _)).trans hxn
          have g1 := cell_blk (i := 0) hO rfl
          have g2 := cell_blk (i := 1) hO rfl
          have g3 := free_blk (i := 0) hO
          have g4 := free_blk (i := 1) hO
          have HX := Lib.hid (show Put w8 l q (.pointer (some ⟨w8.heap.size, 0, none⟩)) ((w5.setCell ⟨w8.heap.size, 0, none⟩ (.slice A7 l.length c7)).setCell ⟨w8.heap.size, 1, none⟩ (.bool q)) from put_early hxn hzn hbn hb5 hs5 q)
          clear hbn hzn hxn hO hb5 hs5 x0n x1n
          go_wp2_with fail
          refine hK.out _ _ (fun _ _ => ⟨dx0, dx1⟩) ?_
          clear hK K
          refine wpAnyG_pure (i := 5) (v := ?_) rfl (by kernel_rfl) (by kernel_rfl) (by kernel_rfl) (fun _ _ _ h => h) rfl ?_ ?_
          rotate_left
          · intro w'
            first | (go_simp; done) | (go_simp; with_reducible rfl)
          refine wpAnyG_pure (i := 6) (v := ?_) rfl (by kernel_rfl) (by kernel_rfl) (by kernel_rfl) (fun _ _ _ h => h) rfl ?_ ?_
          rotate_left
          · intro w'
            first | (go_simp; done) | (go_simp; with_reducible rfl)
          refine wpAnyG_pure (i := 7) (v := ?_) rfl (by kernel_rfl) (by kernel_rfl) (by kernel_rfl) (fun _ _ _ h => h) rfl ?_ ?_
          rotate_left
          · intro w'
            first | (go_simp; done) | (go_simp; with_reducible rfl)
          refine wpAnyG_one (i := 9) (by kernel_rfl) rfl rfl (fun K hK => ?_)
          go_simp
          refine hK.out _ _ (fun h => absurd (by decide) h) ?_
          clear hK K
          refine wpAnyG_one (i := 10) (by kernel_rfl) rfl rfl (fun K hK => ?_)
          go_simp
          refine hK.out _ _ (fun _ h => h) ?_
          clear hK K
          refine wpAnyG_done (by kernel_rfl) ?_ _
          go_wp2_with fail
          go_meet
          case rel => exact ⟨HX.out, rfl⟩
      case rest =>
        obtain ⟨⟨Z, A9, c9, rfl, hb9, hz9⟩, rfl⟩ := hcut
        obtain ⟨w9, rfl⟩ : ∃ w9 : World, w9 = wc := ⟨_, rfl⟩
        have HB9 := Lib.hid (HB8.out.trans (hb9.mono HB8.out.size))
        have HY9 := Lib.hid (HY8.out.next hb9)
        have HZ9 := Lib.hid hz9
        have x0 := (HD4.out.next HB9.out).c0
        have x1 := (HD4.out.next HB9.out).c1
        clear hb9 hz9 HUN2 HCX
        have HAX := Lib.hid (fun (W : World) (hb : Below w9.heap.size w9 W) => HAL.out W (HB9.out.trans (hb.mono HB9.out.size)))
        go_upto_region 7 with fail
        go_cut [15, 16, 17] (fun v iv nv wx => Put w9 lk q v wx ∧ iv = .int .i64 0 ∧ nv = .int .i64 0)
        case first =>
          refine wp_region_G (S := fun w' : World => w'.cell? ⟨w.heap.size, 0, none⟩ = some (.slice A l.length c) ∧ w'.cell? ⟨w.heap.size, 1, none⟩ = some (.bool q)) (T := [10, 11, 12]) (by kernel_rfl) ?_
          have hS : (fun w' : World => w'.cell? ⟨w.heap.size, 0, none⟩ = some (.slice A l.length c) ∧ w'.cell? ⟨w.heap.size, 1, none⟩ = some (.bool q)) w9.drew := ⟨x0, x1⟩
          refine wpAnyG_take (i := 0) (v := ?_) rfl (by kernel_rfl) (by kernel_rfl) (by kernel_rfl) (by kernel_rfl) (fun _ _ _ h => h) hS rfl ?_ ?_
          rotate_left
          · intro w' hSw
            (try dsimp only at hSw)
            first | (go_simp; done) | (go_simp; with_reducible rfl)
          refine wpAnyG_pure (i := 1) (v := ?_) rfl (by kernel_rfl) (by kernel_rfl) (by kernel_rfl) (fun _ _ _ h => h) rfl ?_ ?_
          rotate_left
          · intro w'
            first | (go_simp; done) | (go_simp; with_reducible rfl)
          refine wpAnyG_pure (i := 2) (v := ?_) rfl (by kernel_rfl) (by kernel_rfl) (by kernel_rfl) (fun _ _ _ h => h) rfl ?_ ?_
          rotate_left
          · intro w'
            first | (go_simp; done) | (go_simp; with_reducible rfl)
          refine wpAnyG_pure (i := 3) (v := ?_) rfl (by kernel_rfl) (by kernel_rfl) (by kernel_rfl) (fun _ _ _ h => h) rfl ?_ ?_
          rotate_left
          · intro w'
            first | (go_simp; done) | (go_simp; with_reducible rfl)
          refine wpAnyG_two (i := 4) (j := 9) (by kernel_rfl) rfl rfl rfl rfl (fun K hK => ?_) (fun K hK => ?_)
          · go_simp
            go_at_call 10
            refine (HAX.out w9.drew (Below.refl _ w9).drew).mono ?_
            rintro e' w5 ⟨hb5, hp⟩
            rw [HALR.out] at hp
            rcases hp with ⟨h, _⟩ | ⟨_, A7, c7, rfl, hs5⟩
            · exact absurd rfl h
            have hbr5 : Below w9.heap.size w9 w5 := (Below.refl _ w9).drew.trans hb5
            have dx0 := cell_be (w := w9.drew) x0 hb5
            have dx1 := cell_be (w := w9.drew) x1 hb5
            have HX := Lib.hid (show Put w9 lk q (.pointer (some ⟨w5.heap.size, 0, none⟩)) (w5.alloc (.cells #[.slice A7 lk.length c7, .bool q] 24)) from put_late hbr5 hs5 q)
            clear hbr5 hb5 hs5 x0 x1
            go_wp2_with fail
            refine hK.out _ _ (fun _ _ => ⟨dx0, dx1⟩) ?_
            clear hK K hS
            refine wpAnyG_pure (i := 5) (v := ?_) rfl (by kernel_rfl) (by kernel_rfl) (by kernel_rfl) (fun _ _ _ h => h) rfl ?_ ?_
            rotate_left
            · intro w'
              first | (go_simp; done) | (go_simp; with_reducible rfl)
            refine wpAnyG_pure (i := 6) (v := ?_) rfl (by kernel_rfl) (by kernel_rfl) (by kernel_rfl) (fun _ _ _ h => h) rfl ?_ ?_
            rotate_left
            · intro w'
              first | (go_simp; done) | (go_simp; with_reducible rfl)
            refine wpAnyG_pure (i := 7) (v := ?_) rfl (by kernel_rfl) (by kernel_rfl) (by kernel_rfl) (fun _ _ _ h => h) rfl ?_ ?_
            rotate_left
            · intro w'
              first | (go_simp; done) | (go_simp; with_reducible rfl)
            refine wpAnyG_pure (i := 8) (v := ?_) rfl (by kernel_rfl) (by kernel_rfl) (by kernel_rfl) (fun _ _ _ h => h) rfl ?_ ?_
            rotate_left
            · intro w'
              first | (go_simp; done) | (go_simp; with_reducible rfl)
            refine wpAnyG_one (i := 9) (by kernel_rfl) rfl rfl (fun K hK => ?_)
            go_simp
            refine hK.out _ _ (fun _ _ => ⟨cell_al dx0 _, cell_al dx1 _⟩) ?_
            clear hK K
            refine wpAnyG_one (i := 10) (by kernel_rfl) rfl rfl (fun K hK => ?_)
            go_simp
            refine hK.out _ _ (fun h => absurd (by decide) h) ?_
            clear hK K
            refine wpAnyG_one (i := 11) (by kernel_rfl) rfl rfl (fun K hK => ?_)
            go_simp
            refine hK.out _ _ (fun _ h => h) ?_
            clear hK K
            refine wpAnyG_one (i := 12) (by kernel_rfl) rfl rfl (fun K hK => ?_)
            go_simp
            refine hK.out _ _ (fun _ h => h) ?_
            clear hK K
            refine wpAnyG_done (by kernel_rfl) ?_ _
            go_wp2_with fail
            go_meet
            case rel => exact ⟨HX.out, rfl, rfl⟩
          · go_simp
            refine hK.out _ _ (fun _ _ => ⟨cell_al (w := w9.drew) x0 _, cell_al (w := w9.drew) x1 _⟩) ?_
            clear hK K hS
            obtain ⟨wn, hwn⟩ : ∃ wn, wn = w9.drew.alloc (.cells #[.slice none 0 0, .bool false] 24) := ⟨_, rfl⟩
            have hbn : Below w9.heap.size w9 wn := by rw [hwn]; exact (Below.refl _ w9).drew.alloc (Nat.le_refl _) _
            have hzn : wn.heap.size = w9.heap.size + 1 := by rw [hwn]; exact World.size_alloc w9.drew _
            have hxn : wn.heap[w9.heap.size]? = some (.cells #[.slice none 0 0, .bool false] 24 (0, 0)) := by rw [hwn]; exact heap_alloc_new w9.drew _
            have x0n := cell_be (w := w9) x0 hbn
            have x1n := cell_be (w := w9) x1 hbn
            change wpAnyG _ _ _ _ _ _ _ _ _ (w9.drew.alloc (.cells #[.slice none 0 0, .bool false] 24))
            rw [← hwn]
            clear hwn x0 x1
            refine wpAnyG_one (i := 4) (by kernel_rfl) rfl rfl (fun K hK => ?_)
            go_simp
            go_at_call 10
            refine (HAX.out wn hbn).mono ?_
            rintro e' w5 ⟨hb5, hp⟩
            rw [HALR.out] at hp
            rcases hp with ⟨h, _⟩ | ⟨_, A7, c7, rfl, hs5⟩
            · exact absurd rfl h
            have dx0 := cell_be x0n hb5
            have dx1 := cell_be x1n hb5
            have hO := (hb5.block _ (by rw [hzn]; exact Nat.lt_succ_self _)).trans hxn
            have g1 := cell_blk (i := 0) hO rfl
            have g2 := cell_blk (i := 1) hO rfl
            have g3 := free_blk (i := 0) hO
            have g4 := free_blk (i := 1) hO
            have HX := Lib.hid (show Put w9 lk q (.pointer (some ⟨w9.heap.size, 0, none⟩)) ((w5.setCell ⟨w9.heap.size, 0, none⟩ (.slice A7 lk.length c7)).setCell ⟨w9.heap.size, 1, none⟩ (.bool q)) from put_early hxn hzn hbn hb5 hs5 q)
            clear hbn hzn hxn hO hb5 hs5 x0n x1n
            go_wp2_with fail
            refine hK.out _ _ (fun _ _ => ⟨dx0, dx1⟩) ?_
            clear hK K
            refine wpAnyG_pure (i := 5) (v := ?_) rfl (by kernel_rfl) (by kernel_rfl) (by kernel_rfl) (fun _ _ _ h => h) rfl ?_ ?_
            rotate_left
            · intro w'
              first | (go_simp; done) | (go_simp; with_reducible rfl)
            refine wpAnyG_pure (i := 6) (v := ?_) rfl (by kernel_rfl) (by kernel_rfl) (by kernel_rfl) (fun _ _ _ h => h) rfl ?_ ?_
            rotate_left
            · intro w'
              first | (go_simp; done) | (go_simp; with_reducible rfl)
            refine wpAnyG_pure (i := 7) (v := ?_) rfl (by kernel_rfl) (by kernel_rfl) (by kernel_rfl) (fun _ _ _ h => h) rfl ?_ ?_
            rotate_left
            · intro w'
              first | (go_simp; done) | (go_simp; with_reducible rfl)
            refine wpAnyG_pure (i := 8) (v := ?_) rfl (by kernel_rfl) (by kernel_rfl) (by kernel_rfl) (fun _ _ _ h => h) rfl ?_ ?_
            rotate_left
            · intro w'
              first | (go_simp; done) | (go_simp; with_reducible rfl)
            refine wpAnyG_one (i := 10) (by kernel_rfl) rfl rfl (fun K hK => ?_)
            go_simp
            refine hK.out _ _ (fun h => absurd (by decide) h) ?_
            clear hK K
            refine wpAnyG_one (i := 11) (by kernel_rfl) rfl rfl (fun K hK => ?_)
            go_simp
            refine hK.out _ _ (fun _ h => h) ?_
            clear hK K
            refine wpAnyG_one (i := 12) (by kernel_rfl) rfl rfl (fun K hK => ?_)
            go_simp
            refine hK.out _ _ (fun _ h => h) ?_
            clear hK K
            refine wpAnyG_done (by kernel_rfl) ?_ _
            go_wp2_with fail
            go_meet
            case rel => exact ⟨HX.out, rfl, rfl⟩
        case rest =>
          obtain ⟨⟨V, Av, cv, rfl, hbv, hv⟩, rfl, rfl⟩ := hcut
          obtain ⟨wv, rfl⟩ : ∃ wv : World, wv = wc := ⟨_, rfl⟩
          have HDF := Lib.hid (HD4.out.next (HB9.out.trans (hbv.mono HB9.out.size)))
          have HYF := Lib.hid (HY9.out.next hbv)
          have HZF := Lib.hid (HZ9.out.next hbv)
          have HVF := Lib.hid hv
          have HBF := Lib.hid (HB4.out.trans ((HB9.out.trans (hbv.mono HB9.out.size)).mono HB4.out.size))
          clear hbv hv x0 x1 HAL HAX
          go_wp2_with (first
            | (go_at_call 8; refine (HBG.out _).mono ?_; rintro e' wg ⟨rfl, hbg⟩; have HG := Lib.hid hbg; have p0 := (HYF.out.next hbg).c0; have p1 := (HYF.out.next hbg).c1; have p2 := (HVF.out.next hbg).c0; have p3 := (HVF.out.next hbg).c1; have HS := Lib.hid (sameDoc_same A8 lk.length c8 Av cv lk q wg wg.heap.size (HYF.out.next hbg).doc (HVF.out.next hbg).doc (Nat.le_refl _)); clear hbg HBG)
            | (go_at_call 11; first
                | (refine HS.out.mono ?_; rintro e' wh ⟨rfl, hbh⟩; have HH := Lib.hid (HG.out.trans (hbh.mono HG.out.size)); have q0 := (HZF.out.next HH.out).c0; have q1 := (HZF.out.next HH.out).c1; have q2 := (HDF.out.next HH.out).c0; have q3 := (HDF.out.next HH.out).c1; have HS2 := Lib.hid (sameDoc_same A9 l.length c9 A c l q wh wh.heap.size (HZF.out.next HH.out).doc (HDF.out.next HH.out).doc (Nat.le_refl _)); clear hbh HS p0 p1 p2 p3)
                | (refine HS2.out.mono ?_; rintro e' wj ⟨rfl, hbj⟩)))
          go_ret
          exact ⟨rfl, HBF.out.trans ((HH.out.trans (hbj.mono HH.out.size)).mono HBF.out.size)⟩
end Go.Proofs.YtfeighclpaijoaaGreatDoor
