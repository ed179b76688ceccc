/-
The walk of dom.own: a document is made the call's own.
-/
import Derived.Test.YtmemadajjmmlpaaDoorOwnKit
import Derived.Test.YtmemadajjmmlpaaDoorEdLib
import Derived.Test.YtmemadajjmmlpaaDoorRegionG
import Derived.Test.YtmemadajjmmlpaaDoorEdWalk5
import Derived.Deep.DeepCutAuto
namespace Go.Proofs.YtmemadajjmmlpaaDoor
open Go.RowKit Go.Cl
attribute [local go_sem ↓] Go.wp_at_zero Go.wp_at_succ

/-- Behind the first clone: the new document's box, where its nodes lie. -/
def OwnSt (w : World) (B n : Nat) (q : Bool) (l : List Nd) (v : Value) (wx : World) : Prop :=
  ∃ O g c' ps, v = .pointer (some ⟨O, 0, none⟩) ∧ w.heap.size + 1 < O ∧ Below w.heap.size w wx ∧ wx.heap[O]? = some (.cells #[.slice (some ⟨g, 0, none⟩) n c', .bool q] 24 (0, 0)) ∧ wx.heap[w.heap.size + 1]? = some (.cells #[.slice none 0 0, .bool false] 24 (0, 0)) ∧
    Half wx w.heap.size B (.slice (some ⟨g, 0, none⟩) n c') l ps 0 ∧ n ≤ c'
theorem ownSt_mk {w wx : World} {B n O c' : Nat} {q : Bool} {l : List Nd} {A' : Option Addr} (hO : w.heap.size + 1 < O) (hb : Below w.heap.size w wx) (hbox : wx.heap[O]? = some (.cells #[.slice A' n c', .bool q] 24 (0, 0)))
    (hres : wx.heap[w.heap.size + 1]? = some (.cells #[.slice none 0 0, .bool false] 24 (0, 0))) (ho : Own tNd wx w.heap.size 35 (lt B) (.slice A' n c') n l) (h0 : 0 < n) (hn : n = l.length) (hf : n ≤ 100000) : OwnSt w B n q l (.pointer (some ⟨O, 0, none⟩)) wx := by
  subst hn
  obtain ⟨ps, hh⟩ := half_of ho hf
  obtain ⟨g, c2, e, _, _, hc, _⟩ := hh.where_ h0
  simp only [Value.slice.injEq, true_and] at e
  obtain ⟨rfl, rfl⟩ := e
  exact ⟨O, g, c', ps, rfl, hO, hb, hbox, hres, hh, hc⟩
/-- At the head of a round. -/
def OwnR (w : World) (B n : Nat) (q : Bool) (l : List Nd) (O g c' k : Nat) (wr : World) : Prop :=
  ∃ ps, Below w.heap.size w wr ∧ wr.heap[O]? = some (.cells #[.slice (some ⟨g, 0, none⟩) n c', .bool q] 24 (0, 0)) ∧ wr.heap[w.heap.size + 1]? = some (.cells #[.slice none 0 0, .bool false] 24 (0, 0)) ∧
    Half wr w.heap.size B (.slice (some ⟨g, 0, none⟩) n c') l ps k
set_option maxRecDepth 100000 in
set_option maxHeartbeats 2000000 in
theorem own_any (A : Option Addr) (n c : Nat) (l : List Nd) (q : Bool) (w : World) (B : Nat) (hl : Sl tNd w (lt B) A n c l) (hB : B ≤ w.heap.size) (h0 : 0 < n) (hfew : n ≤ 100000) (hm : ∀ x ∈ l, Mod x) :
    Calls Tryd.prog 50 #[.agg #[.slice A n c, .bool q]] w fun e w' => ∃ g c' ps, e = .returned (.agg #[.slice (some ⟨g, 0, none⟩) n c', .bool q]) ∧ Below w.heap.size w w' ∧ Ed w' w.heap.size (.slice (some ⟨g, 0, none⟩) n c') l ps ∧ n ≤ c' := by
  obtain ⟨w0, hw0⟩ : ∃ w0, w0 = (w.alloc (.cells #[.slice A n c, .bool q] 24)).alloc (.cells #[.slice none 0 0, .bool false] 24) := ⟨_, rfl⟩
  have hz1 : (w.alloc (.cells #[.slice A n c, .bool q] 24)).heap.size = w.heap.size + 1 := World.size_alloc w _
  have hbx : w0.heap[w.heap.size]? = some (.cells #[.slice A n c, .bool q] 24 (0, 0)) := by rw [hw0]; exact (Lib.alloc_old _ _ _ (by omega)).trans (heap_alloc_new w _)
  have hrs : w0.heap[w.heap.size + 1]? = some (.cells #[.slice none 0 0, .bool false] 24 (0, 0)) := by rw [hw0, ← hz1]; exact heap_alloc_new _ _
  have hb0 : Below w.heap.size w w0 := by rw [hw0]; exact ((Below.refl _ _).alloc (Nat.le_refl _) _).alloc (by omega) _
  have hsz : w0.heap.size = w.heap.size + 2 := by rw [hw0, World.size_alloc, hz1]
  have b0 : w0.cell? ⟨w.heap.size, 0, none⟩ = some (.slice A n c) := cell_blk hbx rfl
  have b1 : w0.cell? ⟨w.heap.size, 1, none⟩ = some (.bool q) := cell_blk hbx rfl
  have HL := Lib.hid (hl.below hb0 hB)
  have HB0 := Lib.hid hb0
  have HRS := Lib.hid hrs
  have HSZ := Lib.hid hsz
  have HM := Lib.hid hm
  have HNE : Hid (w0.heap.size ≠ w.heap.size) := by show w0.heap.size ≠ w.heap.size; omega
  have HNL := Lib.hid hl.hn
  have HCL := Lib.hid (fun W (hs : Sl tNd W (lt B) A n c l) (hz : B ≤ W.heap.size) => cloneNd A n c l W B hs hz)
  clear hz1 hbx hrs hb0 hsz hl hm
  go_enter Tryd.func50, Tryd.ntmps50
  go_upto_region 1 with fail
  rw [← hw0]
  clear hw0
  go_cut [3] (fun v wx => OwnSt w B n q l v wx)
  case first =>
    go_region_held3 (fun w' => w'.cell? ⟨w.heap.size, 0, none⟩ = some (.slice A n c) ∧ w'.cell? ⟨w.heap.size, 1, none⟩ = some (.bool q)) (first | exact ⟨b0, b1⟩ | exact ⟨d0, d1⟩ | exact ⟨cell_far HNE.out (cell_far HNE.out d0 _) _, cell_far HNE.out (cell_far HNE.out d1 _) _⟩ | exact ⟨cell_al (w := w0.drew) b0 _, cell_al (w := w0.drew) b1 _⟩ | exact ⟨cell_al d0 _, cell_al d1 _⟩ | go_keep)
      (first
        | (go_at_call 73; refine (HCL.out _ (HL.out.drew) (by have := HSZ.out; show B ≤ w0.heap.size; omega)).mono ?_; rintro e' w4 ⟨A', c', rfl, hb4, ho4⟩; have d0 := cell_be (w := w0.drew) b0 hb4; have d1 := cell_be (w := w0.drew) b1 hb4)
        | (go_at_call 73; refine (HCL.out _ (HL.out.drew.al (by have := HSZ.out; show B ≤ w0.heap.size; omega) _) (by have := HSZ.out; simp; omega)).mono ?_; rintro e' w4 ⟨A', c', rfl, hb4, ho4⟩; have d0 := cell_be (cell_al (w := w0.drew) b0 _) hb4; have d1 := cell_be (cell_al (w := w0.drew) b1 _) hb4; have g0 : w4.heap[w0.heap.size]? = some (.cells #[.slice none 0 0, .bool false] 24 (0, 0)) := (hb4.block _ (by simp)).trans (heap_alloc_new w0.drew _); have g1 := cell_blk (i := 0) g0 rfl; have g2 := cell_blk (i := 1) g0 rfl; have g3 := free_blk (i := 0) g0; have g4 := free_blk (i := 1) g0; have G0 := Lib.hid g0; clear g0)
        | fail)
    · have hb : Below w.heap.size w (w4.alloc (.cells #[.slice A' n c', .bool q] 24)) := (HB0.out.trans (((Below.refl _ w0).drew.trans (hb4.mono (Nat.le_refl _))).mono HB0.out.size)).alloc (Nat.le_trans HB0.out.size hb4.size) _
      have hres := (hb4.block (w.heap.size + 1) (by have := HSZ.out; show _ < w0.heap.size; omega)).trans HRS.out
      have hlt := (Array.getElem?_eq_some_iff.1 hres).1
      have HST := Lib.hid (ownSt_mk (q := q) (O := w4.heap.size) (by have := hb4.size; have := HSZ.out; have h : w0.drew.heap.size = w0.heap.size := rfl; omega) hb (heap_alloc_new w4 _) ((Lib.alloc_old _ _ _ hlt).trans hres) ((Own.alloc ho4 _ (fun b hb' => Nat.lt_of_lt_of_le hb' (Nat.le_trans hB (Nat.le_trans HB0.out.size hb4.size)))).down HB0.out.size) h0 HNL.out hfew)
      clear hb hres hlt hb4 ho4 d0 d1 b0 b1
      go_wp2_with fail
      go_meet
      case rel => exact HST.out
    · have hbs : w0.drew.heap.size = w0.heap.size := rfl
      have hb04 : Below w0.heap.size w0 w4 := ((Below.refl _ w0).drew.alloc (Nat.le_refl _) _).trans (hb4.mono (by simp))
      have hb : Below w.heap.size w ((w4.setCell ⟨w0.heap.size, 0, none⟩ (.slice A' n c')).setCell ⟨w0.heap.size, 1, none⟩ (.bool q)) := ((HB0.out.trans (hb04.mono HB0.out.size)).setCell (p := ⟨w0.heap.size, 0, none⟩) HB0.out.size _).setCell (p := ⟨w0.heap.size, 1, none⟩) HB0.out.size _
      have hres := (hb04.block (w.heap.size + 1) (by have := HSZ.out; omega)).trans HRS.out
      have hne : w.heap.size + 1 ≠ w0.heap.size := by have := HSZ.out; omega
      have hob : ∀ k, (Value.slice A' n c').ownBlock = some k → w0.heap.size < k := fun k hk => by have := (Own.lt ho4 k hk).1; simp at this; omega
      have ho5 := Own.kept ho4 (grown_set w4 w0.heap.size 0 (.slice A' n c')) (by
        cases hv : (Value.slice A' n c').ownBlock with
        | none => exact Or.inl rfl
        | some k =>
          refine Or.inr fun e => ?_
          have := hob k hv
          simp at e
          omega) (fun b hb' => ⟨Nat.lt_of_lt_of_le hb' (Nat.le_trans hB (Nat.le_trans HB0.out.size hb04.size)), fun e => by
          have h1 : b < B := hb'
          have := HB0.out.size
          simp at e
          omega⟩)
      have ho6 := Own.kept ho5 (grown_set _ w0.heap.size 1 (.bool q)) (by
        cases hv : (Value.slice A' n c').ownBlock with
        | none => exact Or.inl rfl
        | some k =>
          refine Or.inr fun e => ?_
          have := hob k hv
          simp at e
          omega) (fun b hb' => ⟨by simp only [World.size_setCell]; exact Nat.lt_of_lt_of_le hb' (Nat.le_trans hB (Nat.le_trans HB0.out.size hb04.size)), fun e => by
          have h1 : b < B := hb'
          have := HB0.out.size
          simp at e
          omega⟩)
      have HST := Lib.hid (ownSt_mk (q := q) (O := w0.heap.size) (by have := HSZ.out; omega) hb (set_blk (set_blk G0.out _) _) ((Below.heap_setCell _ _ _ _ hne).trans ((Below.heap_setCell _ _ _ _ hne).trans hres)) (ho6.down (by simp; have := HB0.out.size; omega)) h0 HNL.out hfew)
      clear hb hres hne hob ho5 ho6 hb04 hb4 ho4 d0 d1 b0 b1 g1 g2 g3 g4 hbs
      go_wp2_with fail
      go_meet
      case rel => exact HST.out
  case rest =>
    obtain ⟨O, g, c', ps0, rfl, hO, hb, hbox, hres, hh, hnc⟩ := hcut
    have H0 : Hid (OwnR w B n q l O g c' 0 wc) := ⟨ps0, hb, hbox, hres, hh⟩
    have o0 : wc.cell? ⟨O, 0, none⟩ = some (.slice (some ⟨g, 0, none⟩) n c') := cell_blk hbox rfl
    clear hb hbox hres hh b0 b1 HL HCL HRS HB0 HSZ
    go_upto_region 3 with fail
    go_loopw [15] (fun s wr => ∃ k : Nat, k ≤ n ∧ s = .int .i64 (k : Int) ∧ Hid (OwnR w B n q l O g c' k wr)) (fun s _ => n - (intOf s).toNat)
    case atStart => exact ⟨0, Nat.zero_le _, rfl, H0⟩
    case round =>
      obtain ⟨k, hk, rfl, HR⟩ := hrel
      obtain ⟨ps, hb, hbox, hres, hh⟩ := HR.out
      by_cases hlt : k < n
      · obtain ⟨x, hx⟩ : ∃ x, l[k]? = some x := get_some (by have := HNL.out; omega)
        obtain ⟨p, hp⟩ : ∃ p, ps[k]? = some p := get_some (by have := HNL.out; have := hh.len; omega)
        obtain ⟨Aa, na, ca, Ak, nk, ck, rfl, hnd⟩ := hh.todo k x p (Nat.le_refl _) hx hp
        obtain rfl : na = x.attrs.length := hnd.attrs.hn
        obtain rfl : nk = x.kids.length := hnd.kids.hn
        obtain ⟨g2, c2, e2, hgb, hgl, _, hfz, hcell⟩ := hh.where_ (by have := HNL.out; omega)
        simp only [Value.slice.injEq, Option.some.injEq, Addr.mk.injEq, and_true] at e2
        obtain ⟨rfl, hn2, rfl⟩ := e2
        clear hn2
        have k2 := hcell k x _ hx hp 2 _ rfl
        have k5 := hcell k x _ hx hp 5 _ rfl
        have o0 : wr.cell? ⟨O, 0, none⟩ = some (.slice (some ⟨g, 0, none⟩) n c') := cell_blk hbox rfl
        have i1 : (0 : Int) ≤ (k : Int) := by omega
        have i2 : (k : Int) < (n : Int) := by omega
        have HX := Lib.hid hx
        have HP := Lib.hid hp
        have HND := Lib.hid hnd
        have HH := Lib.hid hh
        have HB := Lib.hid hb
        have HBX := Lib.hid hbox
        have HRS := Lib.hid hres
        have HFZ := Lib.hid hfz
        have HGL := Lib.hid hgl
        have HGB := Lib.hid hgb
        have hBr : B ≤ wr.heap.size := Nat.le_trans hB hb.size
        have HC1 := Lib.hid (cloneDA Aa x.attrs.length ca x.attrs wr.drew B hnd.attrs.drew hBr)
        have HC2 := Lib.hid (fun W (hs : Sl (tInt .i64) W (lt B) Ak x.kids.length ck x.kids) (hz : B ≤ W.heap.size) => cloneI Ak x.kids.length ck x.kids W B hs hz)
        clear hb hbox hres hh hnd hx hp hcell hfz hgl hgb HR
        go_upto_region 6 with fail
        refine wp_region_G (S := (fun w' : World => w'.cell? ⟨g, k * 6 + 2, none⟩ = some (.slice Aa x.attrs.length ca) ∧ w'.cell? ⟨g, k * 6 + 5, none⟩ = some (.slice Ak x.kids.length ck))) (T := [14, 15, 16, 17]) (by kernel_rfl) ?_
        have hS : (fun w' : World => w'.cell? ⟨g, k * 6 + 2, none⟩ = some (.slice Aa x.attrs.length ca) ∧ w'.cell? ⟨g, k * 6 + 5, none⟩ = some (.slice Ak x.kids.length ck)) wr.drew := ⟨k2, k5⟩
        refine wpAnyG_pure (i := 0) (v := ?_) rfl (by kernel_rfl) (by kernel_rfl) (by kernel_rfl) (fun _ _ _ h => h) rfl ?_ ?_
        rotate_left
        · intro w'
          first | (go_simp; done) | (go_simp; with_reducible rfl)
        refine wpAnyG_pure (i := 1) (v := ?_) rfl (by kernel_rfl) (by kernel_rfl) (by kernel_rfl) (fun _ _ _ h => h) rfl ?_ ?_
        rotate_left
        · intro w'
          first | (go_simp; done) | (go_simp; with_reducible rfl)
        refine wpAnyG_pure (i := 2) (v := ?_) rfl (by kernel_rfl) (by kernel_rfl) (by kernel_rfl) (fun _ _ _ h => h) rfl ?_ ?_
        rotate_left
        · intro w'
          first | (go_simp; done) | (go_simp; with_reducible rfl)
        refine wpAnyG_pure (i := 3) (v := ?_) rfl (by kernel_rfl) (by kernel_rfl) (by kernel_rfl) (fun _ _ _ h => h) rfl ?_ ?_
        rotate_left
        · intro w'
          first | (go_simp; done) | (go_simp; with_reducible rfl)
        refine wpAnyG_pure (i := 4) (v := ?_) rfl (by kernel_rfl) (by kernel_rfl) (by kernel_rfl) (fun _ _ _ h => h) rfl ?_ ?_
        rotate_left
        · intro w'
          first | (go_simp; done) | (go_simp; with_reducible rfl)
        refine wpAnyG_take (i := 5) (v := ?_) rfl (by kernel_rfl) (by kernel_rfl) (by kernel_rfl) (by kernel_rfl) (fun _ _ _ h => h) hS rfl ?_ ?_
        rotate_left
        · intro w' hSw
          (try dsimp only at hSw)
          first | (go_simp; done) | (go_simp; with_reducible rfl)
        refine wpAnyG_pure (i := 7) (v := ?_) rfl (by kernel_rfl) (by kernel_rfl) (by kernel_rfl) (fun _ _ _ h => h) rfl ?_ ?_
        rotate_left
        · intro w'
          first | (go_simp; done) | (go_simp; with_reducible rfl)
        refine wpAnyG_pure (i := 8) (v := ?_) rfl (by kernel_rfl) (by kernel_rfl) (by kernel_rfl) (fun _ _ _ h => h) rfl ?_ ?_
        rotate_left
        · intro w'
          first | (go_simp; done) | (go_simp; with_reducible rfl)
        refine wpAnyG_pure (i := 9) (v := ?_) rfl (by kernel_rfl) (by kernel_rfl) (by kernel_rfl) (fun _ _ _ h => h) rfl ?_ ?_
        rotate_left
        · intro w'
          first | (go_simp; done) | (go_simp; with_reducible rfl)
        refine wpAnyG_take (i := 10) (v := ?_) rfl (by kernel_rfl) (by kernel_rfl) (by kernel_rfl) (by kernel_rfl) (fun _ _ _ h => h) hS rfl ?_ ?_
        rotate_left
        · intro w' hSw
          (try dsimp only at hSw)
          first | (go_simp; done) | (go_simp; with_reducible rfl)
        refine wpAnyG_one (i := 6) (by kernel_rfl) rfl rfl (fun K hK => ?_)
        go_simp
        go_at_call 74
        refine HC1.out.mono ?_
        rintro e' w5 ⟨A1, c1, rfl, hb5, ho5⟩
        have m2 := cell_be (w := wr.drew) k2 hb5
        have m5 := cell_be (w := wr.drew) k5 hb5
        go_wp2_with fail
        refine hK.out _ _ (fun _ _ => ⟨m2, m5⟩) ?_
        clear hK K hS
        refine wpAnyG_one (i := 11) (by kernel_rfl) rfl rfl (fun K hK => ?_)
        go_simp
        go_at_call 75
        refine (HC2.out _ ((HND.out.kids.drew).below hb5 hBr) (Nat.le_trans hBr hb5.size)).mono ?_
        rintro e' w6 ⟨A2, c2, rfl, hb6, ho6⟩
        have n2 := cell_be m2 hb6
        have n5 := cell_be m5 hb6
        go_wp2_with fail
        refine hK.out _ _ (fun _ _ => ⟨n2, n5⟩) ?_
        clear hK K
        have hb56 : Below wr.heap.size wr w6 := ((Below.refl _ wr).drew.trans (hb5.mono (Nat.le_refl _))).trans (hb6.mono hb5.size)
        have hv1 : OwnF tDA w6 wr.heap.size 91 (.slice A1 x.attrs.length c1) x.attrs.length x.attrs := OwnF.below (ho5.flat (flatPair flatStr flatStr)) hb6 (Nat.le_refl _)
        have hv2 : OwnF (tInt .i64) w6 wr.heap.size 3 (.slice A2 x.kids.length c2) x.kids.length x.kids := (ho6.flat (flatInt _)).down hb5.size
        have HST := Lib.hid (HH.out.step HX.out HP.out hb56 HB.out.size hB hv1 hv2 (HM.out x (List.mem_of_getElem? HX.out)))
        have HB6 := Lib.hid ((HB.out.trans (hb56.mono HB.out.size)))
        have HBX6 := Lib.hid ((hb56.block _ (Array.getElem?_eq_some_iff.1 HBX.out).1).trans HBX.out)
        have HRS6 := Lib.hid ((hb56.block _ (Array.getElem?_eq_some_iff.1 HRS.out).1).trans HRS.out)
        have f2 : w6.frozen? ⟨g, k * 6 + 2, none⟩ = false := (hb56.frozen (p := ⟨g, k * 6 + 2, none⟩) HGL.out).trans (HFZ.out _)
        have f5 : w6.frozen? ⟨g, k * 6 + 5, none⟩ = false := (hb56.frozen (p := ⟨g, k * 6 + 5, none⟩) HGL.out).trans (HFZ.out _)
        have HROW6 := Lib.hid (HH.out.row.below hb56 (Nat.le_refl _))
        clear hb56 hv1 hv2 hb5 hb6 ho5 ho6 m2 m5 k2 k5 HC1 HC2
        refine wpAnyG_one (i := 12) (by kernel_rfl) rfl rfl (fun K hK => ?_)
        go_simp
        refine hK.out _ _ (fun _ h => h) ?_
        clear hK K
        refine wpAnyG_one (i := 13) (by kernel_rfl) rfl rfl (fun K hK => ?_)
        go_simp
        refine hK.out _ _ (fun _ h => h) ?_
        clear hK K
        refine wpAnyG_one (i := 14) (by kernel_rfl) rfl rfl (fun K hK => ?_)
        go_simp
        refine hK.out _ _ (fun h => absurd (by decide) h) ?_
        clear hK K
        refine wpAnyG_one (i := 15) (by kernel_rfl) rfl rfl (fun K hK => ?_)
        go_simp
        refine hK.out _ _ (fun _ h => h) ?_
        clear hK K
        refine wpAnyG_one (i := 16) (by kernel_rfl) rfl rfl (fun K hK => ?_)
        go_simp
        refine hK.out _ _ (fun _ h => h) ?_
        clear hK K
        refine wpAnyG_one (i := 17) (by kernel_rfl) rfl rfl (fun K hK => ?_)
        go_simp
        refine hK.out _ _ (fun h => absurd (by decide) h) ?_
        clear hK K
        refine wpAnyG_done (by kernel_rfl) ?_ _
        have hOg : O ≠ g := fun e => own_ne_block (by decide) HROW6.out HBX6.out (by rw [e]; rfl)
        have hRg : w.heap.size + 1 ≠ g := fun e => own_ne_block (by decide) HROW6.out HRS6.out (by rw [e]; rfl)
        have HEND : Hid (OwnR w B n q l O g c' (k + 1) ((w6.setCell ⟨g, k * 6 + 2, none⟩ (.slice A1 x.attrs.length c1)).setCell ⟨g, k * 6 + 5, none⟩ (.slice A2 x.kids.length c2))) :=
          ⟨_, (HB6.out.setCell (p := ⟨g, k * 6 + 2, none⟩) HGB.out _).setCell (p := ⟨g, k * 6 + 5, none⟩) HGB.out _, (Below.heap_setCell _ _ _ _ hOg).trans ((Below.heap_setCell _ _ _ _ hOg).trans HBX6.out), (Below.heap_setCell _ _ _ _ hRg).trans ((Below.heap_setCell _ _ _ _ hRg).trans HRS6.out), HST.out⟩
        clear hOg hRg n2 n5 f2 f5 o0
        go_wp2_with fail
        go_roundw
        case rel => exact ⟨k + 1, by omega, by go_num, HEND⟩
        case measure => simp [intOf]; omega
      · obtain rfl : k = n := by omega
        have hed := hh.ed (by have := HNL.out; omega)
        have o0 : wr.cell? ⟨O, 0, none⟩ = some (.slice (some ⟨g, 0, none⟩) k c') := cell_blk hbox rfl
        have o1 : wr.cell? ⟨O, 1, none⟩ = some (.bool q) := cell_blk hbox rfl
        have r0 : wr.cell? ⟨w.heap.size + 1, 0, none⟩ = some (.slice none 0 0) := cell_blk hres rfl
        have r1 : wr.cell? ⟨w.heap.size + 1, 1, none⟩ = some (.bool false) := cell_blk hres rfl
        have q0 : wr.frozen? ⟨w.heap.size + 1, 0, none⟩ = false := free_blk hres
        have q1 : wr.frozen? ⟨w.heap.size + 1, 1, none⟩ = false := free_blk hres
        have hres1 := set_blk (i := 0) hres (.slice (some ⟨g, 0, none⟩) k c')
        have hres2 := set_blk (i := 1) hres1 (.bool q)
        have s0 := cell_blk (i := 0) (v := .slice (some ⟨g, 0, none⟩) k c') hres2 rfl
        have s1 := cell_blk (i := 1) (v := .bool q) hres2 rfl
        have HED := Lib.hid ((hed.other hres (by decide) (by decide) (by decide) (grown_set wr _ 0 (.slice (some ⟨g, 0, none⟩) k c'))).other hres1 (by decide) (by decide) (by decide) (grown_set _ _ 1 (.bool q)))
        have HB := Lib.hid ((hb.setCell (p := ⟨w.heap.size + 1, 0, none⟩) (by show w.heap.size ≤ w.heap.size + 1; omega) (.slice (some ⟨g, 0, none⟩) k c')).setCell (p := ⟨w.heap.size + 1, 1, none⟩) (by show w.heap.size ≤ w.heap.size + 1; omega) (.bool q))
        clear hed hbox hres hres1 hres2 hb hh HR
        go_wp2_with fail
        refine bodyPost_ret (v := .agg #[.slice (some ⟨g, 0, none⟩) k c', .bool q]) (by simp [results, Tryd.results50, go_sem, s0, s1]) rfl ⟨g, c', ps, rfl, ?_, ?_, hnc⟩
        · exact HB.out
        · exact HED.out
end Go.Proofs.YtmemadajjmmlpaaDoor
