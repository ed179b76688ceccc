/-
The walk of dom.Copy.
-/
import Derived.Test.YtcnogokemilhnaaDoorCopyKit
import Derived.Test.YtcnogokemilhnaaDoorDomAsks
import Derived.Test.YtcnogokemilhnaaDoorRegionG
import Derived.Deep.DeepCutAuto
namespace Go.Proofs.YtcnogokemilhnaaDoor
open Go.RowKit Go.Cl
open Go.Maps (Keyed IsMap int_keyed keyOf_int_mk)
attribute [local go_sem ↓] Go.wp_at_zero Go.wp_at_succ

theorem ed_down {w : World} {b b' : Nat} {A : Value} {l : List Nd} {ps : List (Value × Value)} (h : Ed w b A l ps) (hb : b' ≤ b) : Ed w b' A l ps :=
  ⟨h.len, h.few, Own.down h.row hb, fun i x p hx hp => have hP := h.parts i x p hx hp; ⟨Own.down hP.attrs hb, Own.down hP.kids hb, hP.ok⟩, h.apart⟩
theorem doc_field (A : Option Addr) (n c : Nat) (q : Bool) (W : World) : (Instr.field 24 (.agg #[.slice A n c, .bool q]) 0).run Tryd.prog W = .ok (.slice A n c) W := by kernel_rfl
theorem one_node {w : World} {b g c : Nat} {x : Nd} {ps : List (Value × Value)} (h : Ed w b (.slice (some ⟨g, 0, none⟩) 1 c) [x] ps) : ∃ A' c' Ak nk ck, OwnF tDA w b 84 (.slice A' x.attrs.length c') x.attrs.length x.attrs ∧ EdOk x ∧
    w.cell? ⟨g, 0, none⟩ = some (.int .i64 x.kind) ∧ w.cell? ⟨g, 1, none⟩ = some (.string x.name) ∧ w.cell? ⟨g, 2, none⟩ = some (.slice A' x.attrs.length c') ∧ w.cell? ⟨g, 3, none⟩ = some (.string x.text) ∧ w.cell? ⟨g, 4, none⟩ = some (.int .i64 x.parent) ∧ w.cell? ⟨g, 5, none⟩ = some (.slice Ak nk ck) := by
  obtain ⟨p, hp, hP⟩ := h.part_at (i := 0) (x := x) rfl
  obtain ⟨g', c', e, _, _, _, _, hc⟩ := h.where_ (Nat.succ_pos 0)
  simp only [Value.slice.injEq, Option.some.injEq, Addr.mk.injEq, and_true] at e
  obtain ⟨rfl, _, rfl⟩ := e
  have h' := hc 0 x p rfl hp
  have ha := hP.attrs
  obtain ⟨A', c1, e1⟩ := Own.form hP.attrs
  obtain ⟨Ak, ck, e2⟩ := Own.form hP.kids
  have h2 := h' 2 _ rfl
  have h5 := h' 5 _ rfl
  rw [e1] at h2 ha
  rw [e2] at h5
  exact ⟨A', c1, Ak, _, ck, ha, hP.ok, h' 0 _ rfl, h' 1 _ rfl, h2, h' 3 _ rfl, h' 4 _ rfl, h5⟩
set_option maxRecDepth 100000 in
set_option maxHeartbeats 8000000 in
theorem copy_any (A : Option Addr) (n c : Nat) (l : List Nd) (q : Bool) (z : Int) (w : World) (B : Nat) (hl : Sl tNd w (lt B) A n c l) (hB : B ≤ w.heap.size) (hfew : l.length ≤ 100) :
    Calls Tryd.prog 19 #[.agg #[.slice A n c, .bool q], .int .i64 z] w (CpPost w l q z) := by
  have hmm := @run_makeMap Tryd.prog
  obtain ⟨wa, hwa⟩ : ∃ wa, wa = w.alloc (.cells #[.slice A n c, .bool q] 24) := ⟨_, rfl⟩
  obtain ⟨w0, hw0⟩ : ∃ w0, w0 = wa.alloc (.cells #[.slice none 0 0, .bool false] 24) := ⟨_, rfl⟩
  have za : wa.heap.size = w.heap.size + 1 := by rw [hwa]; exact World.size_alloc w _
  have z0 : w0.heap.size = w.heap.size + 2 := by rw [hw0, World.size_alloc, za]
  have hxa : wa.heap[w.heap.size]? = some (.cells #[.slice A n c, .bool q] 24 (0, 0)) := by rw [hwa]; exact heap_alloc_new w _
  have hx0 : w0.heap[w.heap.size + 1]? = some (.cells #[.slice none 0 0, .bool false] 24 (0, 0)) := by rw [hw0, ← za]; exact heap_alloc_new wa _
  have hbd : w0.heap[w.heap.size]? = some (.cells #[.slice A n c, .bool q] 24 (0, 0)) := by rw [hw0, Lib.alloc_old _ _ _ (by omega)]; exact hxa
  have hb0 : Below w.heap.size w w0 := by rw [hw0, hwa]; exact ((Below.refl _ _).alloc (Nat.le_refl _) _).alloc (by simp) _
  have H0 : Hid (RB w B A n c q l w.heap.size (w.heap.size + 1) w0) := ⟨hb0, hbd, hx0, hl.below hb0 hB, Nat.le_trans hB hb0.size⟩
  have HZ := Lib.hid z0
  have HN := Lib.hid hl.hn
  have HF := Lib.hid hfew
  have HC := Lib.hid hl.hc
  have HL := Lib.hid hl
  have HBW : Hid (B ≤ w.heap.size) := hB
  clear za z0 hxa hx0 hbd hb0 hl hB hfew
  go_enter Tryd.func19, Tryd.ntmps19
  go_upto_region 1 with fail
  rw [← hwa, ← hw0]
  clear hwa hw0
  have x0 := cell_blk (i := 0) H0.out.box rfl
  have x1 := cell_blk (i := 1) H0.out.box rfl
  have HCK := Lib.hid (check_dom A n c l q w0 B H0.out.doc H0.out.le)
  by_cases hck : checkD l = 0
  · have HG := Lib.hid (good_of hck)
    have HT := Lib.hid (tree_of hck)
    have HCE : Hid (cpErr l z = if z < 0 ∨ (l.length : Int) ≤ z then 1 else if z = 0 then 7 else 0) := if_neg (by simpa using hck)
    rw [hck] at HCK
    clear hck
    go_upto_region 4 with (go_at_call 46; refine HCK.out.mono ?_; rintro e' w1 ⟨rfl, hb1⟩)
    have hz := HZ.out
    have H1 := Lib.hid (H0.out.next hb1 (by omega) (by omega) (by omega) H0.out.le)
    have HZ1 : Hid (w.heap.size + 2 ≤ w1.heap.size) := by have := hb1.size; show _ ≤ _; omega
    clear hz hb1 x0 x1 HCK
    have y0 := cell_blk (i := 0) H1.out.box rfl
    have y1 := cell_blk (i := 1) H1.out.box rfl
    have r0 := cell_blk (i := 0) H1.out.res rfl
    have r1 := cell_blk (i := 1) H1.out.res rfl
    have q0 := free_blk (i := 0) H1.out.res
    have q1 := free_blk (i := 1) H1.out.res
    have hres1 := set_blk (i := 0) H1.out.res (.slice none 0 0)
    have hres2 := set_blk (i := 1) hres1 (.bool false)
    have t0 := cell_blk (i := 0) (v := .slice none 0 0) hres2 rfl
    have t1 := cell_blk (i := 1) (v := .bool false) hres2 rfl
    have HB5 := Lib.hid ((H1.out.below.setCell (p := ⟨w.heap.size + 1, 0, none⟩) (by show w.heap.size ≤ w.heap.size + 1; omega) (.slice none 0 0)).setCell (p := ⟨w.heap.size + 1, 1, none⟩) (by show w.heap.size ≤ w.heap.size + 1; omega) (.bool false))
    clear hres1 hres2
    by_cases h1 : z < 0
    · have HR := Lib.hid (HCE.out.trans (if_pos (Or.inl h1)))
      go_wp2_with fail
      refine bodyPost_ret (v := .tuple #[.agg #[.slice none 0 0, .bool false], .int .i64 0, .int .i64 1]) (by simp [results, Tryd.results19, go_sem, t0, t1]) rfl ⟨HB5.out, Or.inl ⟨by rw [HR.out]; decide, by rw [HR.out]⟩⟩
    · by_cases h2 : (n : Int) ≤ z
      · have HR := Lib.hid (HCE.out.trans (if_pos (Or.inr (by have := HN.out; omega))))
        go_wp2_with fail
        refine bodyPost_ret (v := .tuple #[.agg #[.slice none 0 0, .bool false], .int .i64 0, .int .i64 1]) (by simp [results, Tryd.results19, go_sem, t0, t1]) rfl ⟨HB5.out, Or.inl ⟨by rw [HR.out]; decide, by rw [HR.out]⟩⟩
      · have HR0 := Lib.hid (HCE.out.trans (if_neg (by have := HN.out; omega)))
        by_cases h3 : z = 0
        · have HR := Lib.hid (HR0.out.trans (if_pos h3))
          have h3' : (z == 0) = true := by simpa using h3
          have i1 : (0 : Int) ≤ z := by omega
          have i2 : z < (n : Int) := by omega
          clear h3
          go_wp2_with fail
          refine bodyPost_ret (v := .tuple #[.agg #[.slice none 0 0, .bool false], .int .i64 0, .int .i64 7]) (by simp [results, Tryd.results19, go_sem, t0, t1]) rfl ⟨HB5.out, Or.inl ⟨by rw [HR.out]; decide, by rw [HR.out]⟩⟩
        · have HR := Lib.hid (HR0.out.trans (if_neg h3))
          obtain ⟨m, rfl⟩ : ∃ m : Nat, z = (m : Int) := ⟨z.toNat, by omega⟩
          have h3' : ((m : Int) == 0) = false := beq_eq_false_iff_ne.2 h3
          have i1 : (0 : Int) ≤ (m : Int) := by omega
          have i2 : (m : Int) < (n : Int) := by omega
          have HM : Hid (m < l.length) := by have := HN.out; show m < l.length; omega
          have HOW := Lib.hid (own_any A n c l q w1 B H1.out.doc H1.out.le (by have := HN.out; omega) (by have := HN.out; have := HF.out; omega) HG.out.mods)
          clear h1 h2 h3 HR0 HCE HB5
          obtain ⟨bb, o, rfl, hd⟩ := doc_at H1.out.doc (by omega)
          have HD := Lib.hid hd
          have hfw := HT.out.pre_few HM.out
          have HP : Hid ((preR l m).length ≤ 100) := by have := HF.out; show _ ≤ _; omega
          have HN0 : Hid (0 < (preR l m).length) := by show 0 < (preR l m).length; rw [HT.out.pre_step HM.out]; simp
          clear hd hfw
          go_upto_region 9 with (go_at_call 54; refine HOW.out.mono ?_; rintro e' w2 ⟨g, c', ps, rfl, hb2, hed, hnc⟩)
          obtain ⟨w3, hw3⟩ : ∃ w3, w3 = w2.alloc (.cells #[.slice (some ⟨g, 0, none⟩) n c', .bool q] 24) := ⟨_, rfl⟩
          have hb3 : Below w1.heap.size w1 w3 := by rw [hw3]; exact hb2.alloc hb2.size _
          have hx3 : w3.heap[w2.heap.size]? = some (.cells #[.slice (some ⟨g, 0, none⟩) n c', .bool q] 24 (0, 0)) := by rw [hw3]; exact heap_alloc_new w2 _
          have hne3 : Ed w3 w.heap.size (.slice (some ⟨g, 0, none⟩) n c') l ps := by
            rw [hw3]
            have h := hed.next ((Below.refl w2.heap.size w2).alloc (Nat.le_refl _) (.cells #[.slice (some ⟨g, 0, none⟩) n c', .bool q] 24))
            exact ed_down h (by have := HZ1.out; omega)
          rw [← hw3]
          have HLT3 : Hid (w2.heap.size < w3.heap.size ∧ w1.heap.size ≤ w2.heap.size) := ⟨by rw [hw3]; simp, hb2.size⟩
          have HB3 := Lib.hid hb3
          have HX3 := Lib.hid hx3
          have HE3 := Lib.hid hne3
          have HK3 : Hid (∀ (j : Nat) p b, ps[j]? = some p → p.2.ownBlock = some b → b < w2.heap.size) := fun j p b hp hb => by
            obtain ⟨x, hx⟩ := get_some (l := l) (k := j) (by have := hed.len; have := (List.getElem?_eq_some_iff.1 hp).1; omega)
            exact (Own.lt (hed.parts j x p hx hp).kids b hb).2
          have HNC := Lib.hid hnc
          have z0 := cell_blk (i := 0) hx3 rfl
          have z1 := cell_blk (i := 1) hx3 rfl
          clear hw3 hb3 hx3 hne3 hb2 hed hnc HOW q0 q1 r0 r1 t0 t1 y0 y1
          go_upto_region 11 with fail
          obtain ⟨w4, hw4⟩ : ∃ w4, w4 = w3.alloc (.map #[] 0) := ⟨_, rfl⟩
          have hb4 : Below w3.heap.size w3 w4 := by rw [hw4]; exact (Below.refl _ _).alloc (Nat.le_refl _) _
          have hm4 : w4.ownsMap Tryd.prog 3 mpE w3.heap.size 0 (.map []) := by rw [hw4]; exact World.ownsMap_made _ _ _ _
          have hs4 : w4.heap.size = w3.heap.size + 1 := by rw [hw4]; simp
          rw [← hw4]
          have HB4 := Lib.hid hb4
          have HS4 := Lib.hid hs4
          have HM4 := Lib.hid hm4
          have H4 := Lib.hid ((H1.out.next HB3.out (by have := HZ1.out; omega) (by have := HZ1.out; omega) (by have := HZ1.out; omega) H1.out.le).next hb4 (by have := HZ1.out; have := HLT3.out; omega) (by have := HZ1.out; have := HLT3.out; omega) (by have := HZ1.out; have := HLT3.out; omega) (by have := H1.out.le; have := HLT3.out; omega))
          have HPR := Lib.hid (pre_any l HT.out bb o n c q HC.out (41 - upN l (m : Nat)) m [] (.slice none 0 0) w4 w4.heap.size HM.out (by have := (HT.out.deep m HM.out).1; omega) (OwnF.nil _ _ _) ((HD.out.below (HB3.out.trans (hb4.mono (by have := HLT3.out; omega))) H1.out.le).more (by have := H1.out.le; have := HLT3.out; omega)) (Nat.le_refl _) (by have := HP.out; show 0 + (preR l m).length ≤ 200; omega))
          rw [List.nil_append] at HPR
          have y0 := cell_blk (i := 0) H4.out.box rfl
          have y1 := cell_blk (i := 1) H4.out.box rfl
          clear hw4 hb4 hm4 hs4 z0 z1
          go_upto_region 12 with (go_at_call 47; refine HPR.out.mono ?_; rintro e' w5 ⟨v8, rfl, hown, hb5, _⟩; obtain ⟨A8, c8, rfl⟩ := Own.form hown)
          obtain ⟨b8, _, rfl, hlo8, _, _, _, _⟩ := Own.block hown HN0.out
          have HCS : Hid (Cs w w5 l m q #[.slice (some ⟨bb, o, none⟩) n c, .bool q] w2.heap.size w3.heap.size (.slice (some ⟨b8, 0, none⟩) (preR l m).length c8) 0 g c' ps (.map []) l) := by
            have hb35 : Below w3.heap.size w3 w5 := HB4.out.trans (hb5.mono (by have := HS4.out; omega))
            have h5 := H4.out.next hb5 (by have := HZ1.out; have := HLT3.out; have := HS4.out; omega) (by have := HZ1.out; have := HLT3.out; have := HS4.out; omega) (by have := HZ1.out; have := HLT3.out; have := HS4.out; omega) H4.out.le
            have hx := HX3.out
            have he := HE3.out
            rw [HN.out] at hx he
            have hz := HZ1.out
            have hlt := HLT3.out
            have hs4 := HS4.out
            refine ⟨⟨(hb35.block _ (by omega)).trans hx, he.next hb35, by omega, by have := HM.out; omega, by have := HNC.out; have := HN.out; omega⟩, h5.below, h5.box, h5.res, by omega, map_next HM4.out hb5, by omega, fun j k hj => by omega, Own.down hown (by omega), fun j p hp e => ?_⟩
            have := HK3.out j p b8 hp e.symm
            omega
          clear hown hb5 hlo8 HPR HM4 HK3 HX3 HE3 y0 y1 HB4 H4
          go_loopw [46] (fun s wr => ∃ i gi ci pi X, i ≤ (preR l m).length ∧ s = .int .i64 (i : Int) ∧ Hid (Cs w wr l m q #[.slice (some ⟨bb, o, none⟩) n c, .bool q] w2.heap.size w3.heap.size (.slice (some ⟨b8, 0, none⟩) (preR l m).length c8) i gi ci pi X (cpTo l m i))) (fun s _ => (preR l m).length - (intOf s).toNat)
          case atStart => exact ⟨0, g, c', ps, .map [], Nat.zero_le _, rfl, HCS⟩
          case round =>
            obtain ⟨i, gi, ci, pi, X, hi, rfl, HCI⟩ := hrel
            clear HCS
            by_cases hlt : i < (preR l m).length
            · obtain ⟨k, hk⟩ := get_some hlt
              obtain ⟨kk, hkk, hkl⟩ := HT.out.pre_in HM.out (List.mem_of_getElem? hk)
              subst hkk
              obtain ⟨x, hx⟩ := get_some hkl
              have HCO := Lib.hid (HT.out.cp_to HM.out i hi)
              have HSTEP := Lib.hid (show cpTo l m (i + 1) = cpStep l m (cpTo l m i) kk from by rw [cpTo, hk])
              have HK := Lib.hid hk
              have HX := Lib.hid hx
              obtain ⟨h8, hwk⟩ := HCI.out.cell8 hk
              have hkey : keyOf Tryd.prog 3 (.int .i64 (kk : Int)) = some (.int .i64 (kk : Int)) := keyOf_int_mk Tryd.underlying3 hwk
              obtain ⟨out, hout⟩ : ∃ out, cpTo l m i = out := ⟨_, rfl⟩
              rw [hout] at HCI HCO HSTEP
              have HWO : Hid (Lit.wf (.int .i64 (out.length : Int)) = true) := WalkArith.wf_i64 (by have := HCO.out.len; have := HF.out; have := HP.out; omega)
              have e0 := HCI.out.at_.c0
              have i3 : (0 : Int) ≤ (i : Int) := by omega
              have i4 : (i : Int) < ((preR l m).length : Int) := by omega
              have HI : Hid (i < (preR l m).length) := hlt
              have HMP := Lib.hid HCI.out.map
              clear hk hx hwk hlt hi hout hkl
              go_upto_region 15 with (at_mapUpdate; refine wpList_mapUpdate_own _ rfl _ _ _ 96 rfl 3 3 lawI Tryd.underlying96 mpE w3.heap.size i X rfl HMP.out (by have := HI.out; have := HP.out; unfold maxLen; omega) _ _ _ rfl rfl hkey _ [] (plainElem_int Tryd.underlying3 HWO.out) ?_; intro w6 hown6 hgrow6)
              rw [HCO.out.len] at hown6
              have HC6 := Lib.hid (HCI.out.put (HT.out.pre_nodup HM.out) HK.out hown6 hgrow6)
              clear hown6 hgrow6 h8 e0 hkey HMP HCI
              have y0 := cell_blk (i := 0) HC6.out.doc rfl
              have y1 := cell_blk (i := 1) HC6.out.doc rfl
              have HOW := Lib.hid (own_any _ 1 (c - kk) [x] false w6 B (sl_one (HL.out.below HC6.out.low HBW.out) HX.out) (Nat.le_trans HBW.out HC6.out.low.size) (by decide) (by decide) (fun y hy => by
                obtain rfl := List.mem_singleton.1 hy
                exact HG.out.mods y (List.mem_of_getElem? HX.out)))
              have i5 : (0 : Int) ≤ (kk : Int) := by omega
              have i6 : (kk : Int) < (n : Int) := by have := HN.out; have := (List.getElem?_eq_some_iff.1 HX.out).1; omega
              have i7 : (kk : Int) + 1 ≤ (c : Int) := by have := HC.out; omega
              have i8 : (kk : Int) + 1 ≤ (n : Int) := by omega
              have HC' := HC.out
              have HW1 : Hid ((wrap64 ((kk : Int) + 1)).toNat - kk = 1) := by
                have e : wrap64 ((kk : Int) + 1) = (kk : Int) + 1 := by have := HF.out; have := HN.out; unfold wrap64; omega
                show (wrap64 ((kk : Int) + 1)).toNat - kk = 1
                rw [e]; omega
              have s1 : 0 ≤ wrap64 ((kk : Int) + 1) ∧ wrap64 ((kk : Int) + 1) ≤ (c : Int) := by have := HF.out; have := HN.out; unfold wrap64; omega
              have s2 : kk ≤ (wrap64 ((kk : Int) + 1)).toNat := by
                have e : wrap64 ((kk : Int) + 1) = (kk : Int) + 1 := by have := HF.out; have := HN.out; unfold wrap64; omega
                rw [e]; omega
              have hfd := doc_field
              obtain ⟨X', hXX⟩ : ∃ X', X.put (.int .i64 (kk : Int)) (.lit (.int .i64 ((l.length + i : Nat) : Int))) = X' := ⟨_, rfl⟩
              rw [hXX] at HC6
              clear hXX
              go_upto_region 16 with (go_at_call 54; rw [HW1.out]; refine HOW.out.mono ?_; rintro e' w7 ⟨g7, c7, ps7, rfl, hb7, hed7, hn7⟩; obtain ⟨A7, c17, Ak, nk, ck, ho7, hok7, k0, k1, k2, k3, k4, k5⟩ := one_node hed7)
              obtain ⟨w8, hw8⟩ : ∃ w8, w8 = w7.alloc (.cells #[.int .i64 x.kind, .string x.name, .slice A7 x.attrs.length c17, .string x.text, .int .i64 x.parent, .slice Ak nk ck] 38) := ⟨_, rfl⟩
              have hb8 : Below w7.heap.size w7 w8 := by rw [hw8]; exact (Below.refl _ _).alloc (Nat.le_refl _) _
              have hbk8 : w8.heap[w7.heap.size]? = some (.cells #[.int .i64 x.kind, .string x.name, .slice A7 x.attrs.length c17, .string x.text, .int .i64 x.parent, .slice Ak nk ck] 38 (0, 0)) := by rw [hw8]; exact heap_alloc_new w7 _
              rw [← hw8]
              have HB67 := Lib.hid hb7
              have HB8 := Lib.hid hb8
              have HBK8 := Lib.hid hbk8
              have HO7 := Lib.hid ho7
              have HOK := Lib.hid hok7
              have q5 := free_blk (i := 5) hbk8
              have k5' := cell_blk (i := 5) hbk8 rfl
              clear hw8 hb7 hb8 hbk8 hed7 hn7 ho7 hok7 k0 k1 k2 k3 k4 k5 y0 y1 i3 i4 i5 i6 i7 i8 s1 s2 hfd HOW HC' HW1
              go_upto_region 17 with fail
              obtain ⟨w9, hw9⟩ : ∃ w9, w9 = w8.setCell ⟨w7.heap.size, 5, none⟩ (.slice none 0 0) := ⟨_, rfl⟩
              have hb9 : Below w7.heap.size w7 w9 := by rw [hw9]; exact HB8.out.setCell (p := ⟨w7.heap.size, 5, none⟩) (Nat.le_refl _) _
              have hbk9 : w9.heap[w7.heap.size]? = some (.cells #[.int .i64 x.kind, .string x.name, .slice A7 x.attrs.length c17, .string x.text, .int .i64 x.parent, .slice none 0 0] 38 (0, 0)) := by rw [hw9]; exact set_blk HBK8.out _
              rw [← hw9]
              have HB9 := Lib.hid hb9
              have HBK9 := Lib.hid hbk9
              have HFR : Hid (∀ (j : Nat) r b, pi[j]? = some r → r.1.ownBlock = some b → (Value.slice A7 x.attrs.length c17).ownBlock ≠ some b) := fun j r b hr hb e => by
                obtain ⟨y, hy⟩ := get_some (l := out) (k := j) (by have := HC6.out.at_.ed.len; have := (List.getElem?_eq_some_iff.1 hr).1; omega)
                have h1 := (Own.lt (HC6.out.at_.ed.parts j y r hy hr).attrs b hb).2
                have h2 := (Own.lt HO7.out b e).1
                omega
              have HS6 : Hid (w.heap.size ≤ w6.heap.size ∧ w6.heap.size ≤ w7.heap.size) := ⟨HC6.out.low.size, HB67.out.size⟩
              have q4 := free_blk (i := 4) hbk9
              have kp := cell_blk (i := 4) hbk9 rfl
              clear hw9 hb9 hbk9 q5 k5'
              by_cases hkm : kk = m
              · have ke : ((kk : Int) == (m : Int)) = true := by rw [hkm]; exact beq_self_eq_true _
                have HKM := Lib.hid hkm
                clear hkm
                go_upto_region 22 with fail
                obtain ⟨w10, hw10⟩ : ∃ w10, w10 = w9.setCell ⟨w7.heap.size, 4, none⟩ (.int .i64 (-1)) := ⟨_, rfl⟩
                have hb10 : Below w7.heap.size w7 w10 := by rw [hw10]; exact HB9.out.setCell (p := ⟨w7.heap.size, 4, none⟩) (Nat.le_refl _) _
                have hbk10 : w10.heap[w7.heap.size]? = some (.cells #[.int .i64 x.kind, .string x.name, .slice A7 x.attrs.length c17, .string x.text, .int .i64 (-1), .slice none 0 0] 38 (0, 0)) := by rw [hw10]; exact set_blk HBK9.out _
                rw [← hw10]
                have HC10 := Lib.hid (HC6.out.next (HB67.out.trans (hb10.mono HS6.out.2)))
                obtain ⟨g', c2, w11, hrun, fE, cE, hcs⟩ := HC10.out.more (fun e => by cases e) (y := { x with parent := -1, kids := [] }) (A' := A7) (c' := c17) (by have := HCO.out.len; have := HF.out; have := HP.out; have := HI.out; omega) ⟨HOK.out.kind, HOK.out.name, HOK.out.text, (by show (Lit.int .i64 (-1)).wf = true; decide), HOK.out.attrs, Nat.zero_le _⟩ rfl (Own.down (HO7.out.below hb10 (Nat.le_refl _)) HS6.out.1) HFR.out
                have HCS := Lib.hid hcs
                have HRUN := Lib.hid hrun
                have k0 := cell_blk (i := 0) hbk10 rfl
                have k1 := cell_blk (i := 1) hbk10 rfl
                have k2 := cell_blk (i := 2) hbk10 rfl
                have k3 := cell_blk (i := 3) hbk10 rfl
                have k4 := cell_blk (i := 4) hbk10 rfl
                have k5 := cell_blk (i := 5) hbk10 rfl
                have e0 := HC10.out.at_.c0
                have HIS : Hid (cpTo l m (i + 1) = out ++ [{ x with parent := -1, kids := [] }]) := by
                  show cpTo l m (i + 1) = _
                  rw [HSTEP.out]
                  unfold cpStep
                  rw [if_pos (by have := HKM.out; omega)]
                  have e : nodeD l (kk : Int) = x := by unfold nodeD; rw [Int.toNat_natCast, HX.out]; rfl
                  rw [e]
                rw [← HIS.out] at HCS
                clear hw10 hb10 hbk10 hrun hcs q4 kp ke
                have i3 : (0 : Int) ≤ (i : Int) := by omega
                have i4 : (i : Int) < ((preR l m).length : Int) := by have := HI.out; omega
                have hI := HI.out
                have hP := HP.out
                go_wp2_with (at_builtin; refine wpList_append_runI (by rfl) (.tmp 94) (.tmp 96) 22 rfl (.slice (some ⟨gi, 0, none⟩) out.length ci) (.slice (some ⟨w10.heap.size, 0, none⟩) 1 1) rfl rfl HRUN.out ?_)
                go_roundw
                case rel => exact ⟨i + 1, g', c2, _, X', HI.out, by go_num, HCS⟩
                case measure => simp [intOf]; omega
              · have ke : ((kk : Int) == (m : Int)) = false := beq_eq_false_iff_ne.2 (by omega)
                have HKM : Hid (¬ (kk : Int) = (m : Int)) := by show ¬ (kk : Int) = (m : Int); omega
                have HPJ : Hid (∃ jp, jp < i ∧ (preR l m)[jp]? = some x.parent) := by
                  have h0 : 0 < i := Nat.pos_of_ne_zero fun e => by
                    have head : (preR l m)[0]? = some (m : Int) := by rw [HT.out.pre_step HM.out]; rfl
                    have hk := HK.out
                    rw [e, head] at hk
                    exact HKM.out (Option.some.inj hk).symm
                  obtain ⟨j, hj, hjp⟩ := HT.out.pre_parent _ m HM.out (HT.out.fuel HM.out) i kk h0 HK.out
                  exact ⟨j, hj, by rw [← parD_nat HX.out]; exact hjp⟩
                clear hkm
                obtain ⟨jp, hjp, hjk⟩ := HPJ.out
                have HNUM := Lib.hid (HC6.out.num jp x.parent (by omega) hjk)
                have HCP := Lib.hid (HT.out.cpN_at HM.out hjk)
                have hy := HCO.out.new jp x.parent hjp hjk
                obtain ⟨y, hyy⟩ : ∃ y, cpNode l m i x.parent = y := ⟨_, rfl⟩
                rw [hyy] at hy
                have HYK : Hid (y.kids.length < 1000) := by
                  show y.kids.length < 1000
                  rw [← hyy]
                  unfold cpNode
                  rw [List.length_map]
                  refine Nat.lt_of_le_of_lt (List.length_filter_le _ _) ?_
                  rw [List.length_tail, List.length_take]
                  have := HP.out
                  omega
                have HML : Hid (l.length + jp < out.length) := by show l.length + jp < out.length; have := HCO.out.len; omega
                obtain ⟨mm, hmm2⟩ : ∃ mm, l.length + jp = mm := ⟨_, rfl⟩
                rw [hmm2] at HNUM HCP hy HML
                have HY := Lib.hid hy
                have HMP := Lib.hid (HC6.out.next (HB67.out.trans (HB9.out.mono HS6.out.2))).map
                have hkeyp : keyOf Tryd.prog 3 (.int .i64 x.parent) = some (.int .i64 x.parent) := keyOf_int_mk Tryd.underlying3 HOK.out.parent
                clear hjp hjk hy hyy hmm2 HPJ
                go_upto_region 20 with (at_lookup; refine wpList_lookup_own_int _ rfl _ _ 96 rfl 3 3 .i64 lawI Tryd.underlying96 Tryd.underlying3 (zeroI _) w3.heap.size (i + 1) X' rfl HMP.out _ _ rfl hkeyp ?_; intro cc hat hwc; rw [HNUM.out] at hat; injection hat with hat; injection hat with _ hat; subst hat)
                obtain ⟨w10, hw10⟩ : ∃ w10, w10 = w9.setCell ⟨w7.heap.size, 4, none⟩ (.int .i64 (mm : Int)) := ⟨_, rfl⟩
                have hb10 : Below w7.heap.size w7 w10 := by rw [hw10]; exact HB9.out.setCell (p := ⟨w7.heap.size, 4, none⟩) (Nat.le_refl _) _
                have hbk10 : w10.heap[w7.heap.size]? = some (.cells #[.int .i64 x.kind, .string x.name, .slice A7 x.attrs.length c17, .string x.text, .int .i64 (mm : Int), .slice none 0 0] 38 (0, 0)) := by rw [hw10]; exact set_blk HBK9.out _
                rw [← hw10]
                have HC10 := Lib.hid (HC6.out.next (HB67.out.trans (hb10.mono HS6.out.2)))
                have HB10 := Lib.hid hb10
                have HBK10 := Lib.hid hbk10
                have k4 := cell_blk (i := 4) hbk10 rfl
                have e0 := HC10.out.at_.c0
                have j1 : (0 : Int) ≤ (mm : Int) := by omega
                have j2 : (mm : Int) < (out.length : Int) := by have := HML.out; omega
                clear hw10 hb10 hbk10 q4 kp ke hkeyp HMP HNUM hwc
                go_upto_region 21 with fail
                obtain ⟨p1, A5, c5, A', c9, w11, hp1, x5, hrun, fk, xk, xE, hcs, hbox, hatt⟩ := HC10.out.grow HY.out HWO.out HYK.out
                have HCG := Lib.hid hcs
                have HBG := Lib.hid hbox
                have HAG := Lib.hid hatt
                have HP1 := Lib.hid hp1
                clear hcs hbox hatt hp1 k4
                refine wp_region_G (S := (fun w' : World => w'.cell? ⟨gi, mm * 6 + 5, none⟩ = some (.slice A5 y.kids.length c5) ∧ w'.cell? ⟨w2.heap.size, 0, none⟩ = some (.slice (some ⟨gi, 0, none⟩) out.length ci))) (T := [12]) (by kernel_rfl) ?_
                have hS : (fun w' : World => w'.cell? ⟨gi, mm * 6 + 5, none⟩ = some (.slice A5 y.kids.length c5) ∧ w'.cell? ⟨w2.heap.size, 0, none⟩ = some (.slice (some ⟨gi, 0, none⟩) out.length ci)) w10.drew := ⟨x5, e0⟩
                refine wpAnyG_take (i := 0) (v := ?_) rfl (by kernel_rfl) (by kernel_rfl) (by kernel_rfl) (by kernel_rfl) (fun _ _ _ h => h) hS rfl ?_ ?_
                rotate_left
                · intro w' hSw
                  (try dsimp only at hSw)
                  first | (go_simp; done) | (go_simp; with_reducible rfl)
                refine wpAnyG_take (i := 1) (v := ?_) rfl (by kernel_rfl) (by kernel_rfl) (by kernel_rfl) (by kernel_rfl) (fun _ _ _ h => h) hS rfl ?_ ?_
                rotate_left
                · intro w' hSw
                  (try dsimp only at hSw)
                  first | (go_simp; done) | (go_simp; with_reducible rfl)
                refine wpAnyG_take (i := 2) (v := ?_) rfl (by kernel_rfl) (by kernel_rfl) (by kernel_rfl) (by kernel_rfl) (fun _ _ _ h => h) hS rfl ?_ ?_
                rotate_left
                · intro w' hSw
                  (try dsimp only at hSw)
                  first | (go_simp; done) | (go_simp; with_reducible rfl)
                refine wpAnyG_take (i := 3) (v := ?_) rfl (by kernel_rfl) (by kernel_rfl) (by kernel_rfl) (by kernel_rfl) (fun _ _ _ h => h) hS rfl ?_ ?_
                rotate_left
                · intro w' hSw
                  (try dsimp only at hSw)
                  first | (go_simp; done) | (go_simp; with_reducible rfl)
                refine wpAnyG_take (i := 4) (v := ?_) rfl (by kernel_rfl) (by kernel_rfl) (by kernel_rfl) (by kernel_rfl) (fun _ _ _ h => h) hS rfl ?_ ?_
                rotate_left
                · intro w' hSw
                  (try dsimp only at hSw)
                  first | (go_simp; done) | (go_simp; with_reducible rfl)
                refine wpAnyG_take (i := 5) (v := ?_) rfl (by kernel_rfl) (by kernel_rfl) (by kernel_rfl) (by kernel_rfl) (fun _ _ _ h => h) hS rfl ?_ ?_
                rotate_left
                · intro w' hSw
                  (try dsimp only at hSw)
                  first | (go_simp; done) | (go_simp; with_reducible rfl)
                refine wpAnyG_take (i := 6) (v := ?_) rfl (by kernel_rfl) (by kernel_rfl) (by kernel_rfl) (by kernel_rfl) (fun _ _ _ h => h) hS rfl ?_ ?_
                rotate_left
                · intro w' hSw
                  (try dsimp only at hSw)
                  first | (go_simp; done) | (go_simp; with_reducible rfl)
                refine wpAnyG_take (i := 7) (v := ?_) rfl (by kernel_rfl) (by kernel_rfl) (by kernel_rfl) (by kernel_rfl) (fun _ _ _ h => h) hS rfl ?_ ?_
                rotate_left
                · intro w' hSw
                  (try dsimp only at hSw)
                  first | (go_simp; done) | (go_simp; with_reducible rfl)
                refine wpAnyG_one (i := 8) (by kernel_rfl) rfl rfl (fun K hK => ?_)
                go_simp
                refine hK.out _ _ (fun _ _ => ⟨cell_al (w := w10.drew) x5 _, cell_al (w := w10.drew) e0 _⟩) ?_
                clear hK K hS
                refine wpAnyG_one (i := 9) (by kernel_rfl) rfl rfl (fun K hK => ?_)
                refine wp_append_runI (.tmp 85) (.tmp 89) 32 rfl (.slice A5 y.kids.length c5) (.slice (some ⟨w10.heap.size, 0, none⟩) 1 1) rfl rfl hrun ?_
                refine hK.out _ _ (fun _ _ => ⟨xk, xE⟩) ?_
                clear hK K
                have hS : (fun w' : World => w'.cell? ⟨gi, mm * 6 + 5, none⟩ = some (.slice A5 y.kids.length c5) ∧ w'.cell? ⟨w2.heap.size, 0, none⟩ = some (.slice (some ⟨gi, 0, none⟩) out.length ci)) w11 := ⟨xk, xE⟩
                clear x5 e0 hrun j1 j2
                refine wpAnyG_one (i := 10) (by kernel_rfl) rfl rfl (fun K hK => ?_)
                go_simp
                refine hK.out _ _ (fun _ h => h) ?_
                clear hK K
                refine wpAnyG_one (i := 11) (by kernel_rfl) rfl rfl (fun K hK => ?_)
                go_simp
                refine hK.out _ _ (fun _ h => h) ?_
                clear hK K
                refine wpAnyG_one (i := 12) (by kernel_rfl) rfl rfl (fun K hK => ?_)
                go_simp
                refine hK.out _ _ (fun h => absurd (by decide) h) ?_
                clear hK K hS
                refine wpAnyG_done (by kernel_rfl) ?_ _
                obtain ⟨w12, hw12⟩ : ∃ w12, w12 = w11.setCell ⟨gi, mm * 6 + 5, none⟩ (.slice A' (y.kids.length + 1) c9) := ⟨_, rfl⟩
                rw [← hw12] at HCG HBG HAG
                rw [← hw12]
                have hbk12 := HBG.out w7.heap.size _ (by have := HC6.out.at_.gs.2; have := HS6.out; omega) HBK10.out
                have hat12 := HAG.out _ _ _ (Own.down (HO7.out.below HB10.out (Nat.le_refl _)) HS6.out.1)
                obtain ⟨out2, ho2⟩ : ∃ out2, out.set mm { y with kids := y.kids ++ [(out.length : Int)] } = out2 := ⟨_, rfl⟩
                have HO2 := Lib.hid ho2
                have HL2 : Hid (out2.length = out.length) := by show out2.length = out.length; rw [← ho2, List.length_set]
                rw [ho2] at HCG
                obtain ⟨g', c2, w13, hrun, fE, cE, hcs⟩ := HCG.out.more (fun e => by cases e) (y := { x with parent := (mm : Int), kids := [] }) (A' := A7) (c' := c17) (by have := HL2.out; have := HCO.out.len; have := HF.out; have := HP.out; have := HI.out; omega) ⟨HOK.out.kind, HOK.out.name, HOK.out.text, (by show (Lit.int .i64 (mm : Int)).wf = true; exact WalkArith.wf_i64 (by have := HML.out; have := HCO.out.len; have := HF.out; have := HP.out; have := HI.out; omega)), HOK.out.attrs, Nat.zero_le _⟩ rfl hat12 (fun j r b hr hb => by
                  by_cases e : mm = j
                  · subst e
                    rw [List.getElem?_set_self (List.getElem?_eq_some_iff.1 HP1.out).1] at hr
                    obtain rfl := Option.some.inj hr
                    exact HFR.out mm _ b HP1.out hb
                  · rw [List.getElem?_set_ne e] at hr
                    exact HFR.out j r b hr hb)
                have HCS := Lib.hid hcs
                have HRUN := Lib.hid hrun
                have k0 := cell_blk (i := 0) hbk12 rfl
                have k1 := cell_blk (i := 1) hbk12 rfl
                have k2 := cell_blk (i := 2) hbk12 rfl
                have k3 := cell_blk (i := 3) hbk12 rfl
                have k4 := cell_blk (i := 4) hbk12 rfl
                have k5 := cell_blk (i := 5) hbk12 rfl
                have e0 := HCG.out.at_.c0
                have HIS : Hid (cpTo l m (i + 1) = out2 ++ [{ x with parent := (mm : Int), kids := [] }]) := by
                  show cpTo l m (i + 1) = _
                  have e : nodeD l (kk : Int) = x := by unfold nodeD; rw [Int.toNat_natCast, HX.out]; rfl
                  rw [HSTEP.out]
                  unfold cpStep
                  rw [if_neg HKM.out, parD_nat HX.out, HCP.out, HY.out, e]
                  show out.set mm { y with kids := y.kids ++ [(out.length : Int)] } ++ _ = _
                  rw [HO2.out]
                rw [← HIS.out] at HCS
                clear hw12 hbk12 hat12 hrun hcs ho2 fk xk xE
                have i3 : (0 : Int) ≤ (i : Int) := by omega
                have i4 : (i : Int) < ((preR l m).length : Int) := by have := HI.out; omega
                have hI := HI.out
                have hP := HP.out
                go_wp2_with (at_builtin; refine wpList_append_runI (by rfl) (.tmp 94) (.tmp 96) 22 rfl (.slice (some ⟨gi, 0, none⟩) out2.length ci) (.slice (some ⟨w12.heap.size, 0, none⟩) 1 1) rfl rfl HRUN.out ?_)
                go_roundw
                case rel => exact ⟨i + 1, g', c2, _, X', HI.out, by go_num, HCS⟩
                case measure => simp [intOf]; omega
            · obtain rfl : i = (preR l m).length := by omega
              have HCO := Lib.hid (HT.out.cp_to HM.out _ (Nat.le_refl _))
              have HEQ : Hid (cpEnd l (m : Int).toNat = cpTo l m (preR l m).length) := by show cpEnd l (m : Int).toNat = _; rw [Int.toNat_natCast]; rfl
              obtain ⟨out, hout⟩ : ∃ out, cpTo l m (preR l m).length = out := ⟨_, rfl⟩
              rw [hout] at HCI HCO HEQ
              have e0 := HCI.out.at_.c0
              have e1 := HCI.out.at_.c1
              have r0 := cell_blk (i := 0) HCI.out.res rfl
              have r1 := cell_blk (i := 1) HCI.out.res rfl
              have q0 := free_blk (i := 0) HCI.out.res
              have q1 := free_blk (i := 1) HCI.out.res
              have i9 : (out.length : Int) ≤ 200 := by have := HCO.out.len; have := HF.out; have := HP.out; omega
              have hres1 := set_blk (i := 0) HCI.out.res (.slice (some ⟨gi, 0, none⟩) out.length ci)
              have hres2 := set_blk (i := 1) hres1 (.bool q)
              have t0 := cell_blk (i := 0) (v := .slice (some ⟨gi, 0, none⟩) out.length ci) hres2 rfl
              have t1 := cell_blk (i := 1) (v := .bool q) hres2 rfl
              have hed5 := (HCI.out.at_.ed.other HCI.out.res (by decide) (by decide) (by decide) (grown_set wr _ 0 (.slice (some ⟨gi, 0, none⟩) out.length ci))).other hres1 (by decide) (by decide) (by decide) (grown_set _ _ 1 (.bool q))
              have HSL5 := Lib.hid hed5.slr
              have HB5 := Lib.hid ((HCI.out.low.setCell (p := ⟨w.heap.size + 1, 0, none⟩) (by show w.heap.size ≤ w.heap.size + 1; omega) (.slice (some ⟨gi, 0, none⟩) out.length ci)).setCell (p := ⟨w.heap.size + 1, 1, none⟩) (by show w.heap.size ≤ w.heap.size + 1; omega) (.bool q))
              clear hres1 hres2 hed5 hout hlt hi
              go_wp2_with fail
              refine bodyPost_ret (v := .tuple #[.agg #[.slice (some ⟨gi, 0, none⟩) out.length ci, .bool q], .int .i64 n, .int .i64 0]) (by simp [results, Tryd.results19, go_sem, t0, t1]) rfl ⟨HB5.out, Or.inr ⟨HR.out, some ⟨gi, 0, none⟩, ci, ?_, ?_⟩⟩
              · rw [HEQ.out, HN.out]
              · rw [HEQ.out]
                exact HSL5.out
  · have HR := Lib.hid (show cpErr l z = checkD l from if_pos hck)
    have HNZ := Lib.hid hck
    have hck1 : (checkD l != 0) = true := by simpa using hck
    clear hck
    generalize checkD l = er at *
    go_upto_region 3 with (go_at_call 46; refine HCK.out.mono ?_; rintro e' w1 ⟨rfl, hb1⟩)
    have hz := HZ.out
    have H1 := Lib.hid (H0.out.next hb1 (by omega) (by omega) (by omega) H0.out.le)
    have r0 := cell_blk (i := 0) H1.out.res rfl
    have r1 := cell_blk (i := 1) H1.out.res rfl
    have q0 := free_blk (i := 0) H1.out.res
    have q1 := free_blk (i := 1) H1.out.res
    have hres1 := set_blk (i := 0) H1.out.res (.slice none 0 0)
    have hres2 := set_blk (i := 1) hres1 (.bool false)
    have t0 := cell_blk (i := 0) (v := .slice none 0 0) hres2 rfl
    have t1 := cell_blk (i := 1) (v := .bool false) hres2 rfl
    have HB5 := Lib.hid ((H1.out.below.setCell (p := ⟨w.heap.size + 1, 0, none⟩) (by show w.heap.size ≤ w.heap.size + 1; omega) (.slice none 0 0)).setCell (p := ⟨w.heap.size + 1, 1, none⟩) (by show w.heap.size ≤ w.heap.size + 1; omega) (.bool false))
    clear hz hb1 hres1 hres2 x0 x1 HCK
    go_wp2_with fail
    refine bodyPost_ret (v := .tuple #[.agg #[.slice none 0 0, .bool false], .int .i64 0, .int .i64 er]) (by simp [results, Tryd.results19, go_sem, t0, t1]) rfl ⟨HB5.out, Or.inl ⟨by rw [HR.out]; exact HNZ.out, by rw [HR.out]⟩⟩
end Go.Proofs.YtcnogokemilhnaaDoor
