/-
The walk of IndexOnce.
-/
import Derived.Test.YtfgmfmkibjfknaaDoorIdxBegun
import Derived.Test.YtfgmfmkibjfknaaDoorDocBox
namespace Go.Proofs.YtfgmfmkibjfknaaDoor
open Go.RowKit Go.Cl
attribute [local go_sem ↓] Go.wp_at_zero Go.wp_at_succ

/-! ### the plain law -/
theorem an_two {rk : Int → Int} {l : List Nd} {xs : List Int} {k : Nat} {n : Int} {x : Nd} (h : xs[k]? = some n) (hx : ndG l n = x) : allN (anTo rk l xs (k + 1) 2) = allN (anTo rk l xs k 2) + (if x.kind = 2 then 1 else 0) := by
  rw [an_next h, hx]
  unfold turnL
  rw [step_all]
  unfold wordsP
  split <;> rfl
theorem an_one {rk : Int → Int} {l : List Nd} {xs : List Int} {k : Nat} {n : Int} {x : Nd} (h : xs[k]? = some n) (hx : ndG l n = x) : allN (anTo rk l xs (k + 1) 1) = allN (anTo rk l xs k 1) + (if x.kind = 2 then (wordsL (ofA x.attrs classB)).length else 0) := by
  rw [an_next h, hx]
  unfold turnL
  rw [step_all]
  unfold wordsP
  split <;> rfl
theorem step_has {rk : Int → Int} {n : Int} (ws : List ByteArray) : ∀ (l : List Ref) (w' : ByteArray) (n' : Int), Has (stepW rk n l ws) w' n' ↔ Has l w' n' ∨ (w' ∈ ws ∧ n' = n) := by
  induction ws with
  | nil => intro l w' n'; exact ⟨.inl, fun h => h.elim id fun h => by simp at h⟩
  | cons y r ih =>
    intro l w' n'
    show Has (stepW rk n (putR rk l y n) r) w' n' ↔ _
    rw [ih, put_has, List.mem_cons]
    constructor
    · rintro ((h | ⟨h1, h2⟩) | ⟨h1, h2⟩)
      · exact .inl h
      · exact .inr ⟨.inl h1, h2⟩
      · exact .inr ⟨.inr h1, h2⟩
    · rintro (h | ⟨h1 | h1, h2⟩)
      · exact .inl (.inl h)
      · exact .inl (.inr ⟨h1, h2⟩)
      · exact .inr ⟨h1, h2⟩
theorem an_has {rk : Int → Int} {l : List Nd} {xs : List Int} (i : Nat) (w : ByteArray) (n : Int) : ∀ k, Has (anTo rk l xs k i) w n → n ∈ xs ∧ w ∈ (wordsP (ndG l n))[i]?.getD [] := by
  intro k
  induction k with
  | zero => rintro ⟨r, hr, _⟩; simp [anTo] at hr
  | succ k ih =>
    intro h
    cases hk : xs[k]? with
    | none => exact ih (by rw [show anTo rk l xs (k + 1) = anTo rk l xs k from by rw [anTo, hk]] at h; exact h)
    | some z =>
      rw [an_next hk] at h
      unfold turnL at h
      rcases (step_has _ _ _ _).1 h with h | ⟨h1, rfl⟩
      · exact ih h
      · exact ⟨List.mem_of_getElem? hk, h1⟩
/-- Who stands by a tag has that name. -/
theorem an_tag {rk : Int → Int} {l : List Nd} {xs : List Int} {k : Nat} {r : Ref} {z : Int} (hr : r ∈ anTo rk l xs k 2) (hz : z ∈ r.2) : z ∈ xs ∧ (ndG l z).name = r.1 := by
  obtain ⟨h1, h2⟩ := an_has 2 r.1 z k ⟨r, hr, rfl, hz⟩
  refine ⟨h1, ?_⟩
  unfold wordsP at h2
  split at h2
  · exact (List.mem_singleton.1 h2).symm
  · simp at h2
theorem all_take {l : List Ref} {k : Nat} {r : Ref} (hr : l[k]? = some r) : allN (l.take (k + 1)) = allN (l.take k) + r.2.length := by
  unfold allN
  rw [take_snoc hr, List.map_append, List.sum_append]
  simp
theorem all_le {l : List Ref} (k : Nat) : allN (l.take k) ≤ allN l := by
  conv => rhs; rw [← List.take_append_drop k l]
  unfold allN
  rw [List.map_append, List.sum_append]
  omega
theorem rise_at {l : List Ref} (h : RSort l) {k : Nat} {a b : Ref} (h0 : 0 < k) (ha : l[k - 1]? = some a) (hb : l[k]? = some b) : Op.bytesLess a.1.toList b.1.toList = true := by
  have hk := (List.getElem?_eq_some_iff.1 hb).1
  have := List.pairwise_iff_getElem.1 h (k - 1) k (by omega) hk (by omega)
  rw [(List.getElem?_eq_some_iff.1 ha).2, (List.getElem?_eq_some_iff.1 hb).2] at this
  exact this

set_option maxRecDepth 100000 in
set_option maxHeartbeats 16000000 in
theorem indexOnce_walk (A : Option Addr) (n c : Nat) (l : List Nd) (q : Bool) (w : World) (B : Nat) (hl : Sl tNd w (lt B) A n c l) (hB : B ≤ w.heap.size) :
    Calls Tryd.prog 4 #[.agg #[.slice A n c, .bool q]] w fun e w' => e = .returned (.bool true) ∧ Below w.heap.size w w' := by
  obtain ⟨w0, hw0⟩ : ∃ w0, w0 = w.alloc (.cells #[.slice A n c, .bool q] 24) := ⟨_, rfl⟩
  have hbx : w0.heap[w.heap.size]? = some (.cells #[.slice A n c, .bool q] 24 (0, 0)) := by rw [hw0]; exact heap_alloc_new w _
  have b0 : w0.cell? ⟨w.heap.size, 0, none⟩ = some (.slice A n c) := cell_blk hbx rfl
  have b1 : w0.cell? ⟨w.heap.size, 1, none⟩ = some (.bool q) := cell_blk hbx rfl
  have hb0 : Below w.heap.size w w0 := by rw [hw0]; exact (Below.refl _ _).alloc (Nat.le_refl _) _
  have hz0 : w0.heap.size = w.heap.size + 1 := by rw [hw0]; exact World.size_alloc w _
  have HB0 := Lib.hid hb0
  have HBX := Lib.hid hbx
  have HL := Lib.hid hl
  obtain ⟨k, hk, hkc, hkn⟩ : ∃ k : Nat, min (n : Int) 50 = (k : Int) ∧ k ≤ c ∧ k ≤ n := ⟨min n 50, by omega, by have := hl.hc; omega, by omega⟩
  have HF := Lib.hid (few_any A n c k q 50 w0 hk hkc)
  clear hb0 hl
  go_enter Tryd.func4, Tryd.ntmps4
  go_upto_region 1 with fail
  rw [← hw0]
  clear hw0
  go_upto_region 2 with (go_at_call 6; refine HF.out.mono ?_; rintro e w1 ⟨rfl, hb1⟩; have hbx1 : w1.heap[w.heap.size]? = some (.cells #[.slice A n c, .bool q] 24 (0, 0)) := (hb1.block _ (by omega)).trans HBX.out; have y0 := cell_blk (i := 0) hbx1 rfl; have y1 := cell_blk (i := 1) hbx1 rfl; have f0 := free_blk (i := 0) hbx1; have f1 := free_blk (i := 1) hbx1)
  obtain ⟨w2, hw2⟩ : ∃ w2, w2 = (w1.setCell ⟨w.heap.size, 0, none⟩ (.slice A k c)).setCell ⟨w.heap.size, 1, none⟩ (.bool q) := ⟨_, rfl⟩
  have hb2 : Below w.heap.size w w2 := by rw [hw2]; exact ((HB0.out.trans (hb1.mono HB0.out.size)).setCell (Nat.le_refl _) _).setCell (Nat.le_refl _) _
  have hbx2 : w2.heap[w.heap.size]? = some (.cells #[.slice A k c, .bool q] 24 (0, 0)) := by rw [hw2]; exact set_blk (i := 1) (set_blk (i := 0) hbx1 _) _
  rw [← hw2]
  have z0 : w2.cell? ⟨w.heap.size, 0, none⟩ = some (.slice A k c) := cell_blk hbx2 rfl
  have z1 : w2.cell? ⟨w.heap.size, 1, none⟩ = some (.bool q) := cell_blk hbx2 rfl
  have hl2 := (HL.out.cut_to hkn).below hb2 hB
  have hB2 : B ≤ w2.heap.size := Nat.le_trans hB hb2.size
  have H2 : Hid (DB w B A k c q (l.take k) w2) := ⟨hb2, hbx2, hl2, hB2⟩
  clear hw2 hb1 hbx1 y0 y1 f0 f1 b0 b1 hb2 hbx2 hbx hl2 HL HF hB2 HBX HB0 hz0
  generalize l.take k = l at *
  have HBG := Lib.hid (fun u => indexBegun_any u)
  have HOF := Lib.hid (indexOf_any A k c l q w2 B H2.out.doc H2.out.le)
  by_cases hc : checkD l = 0
  · have HC := Lib.hid hc
    have HOF2 := Lib.hid (HOF.out.mono (R' := fun e w' => Below w2.heap.size w2 w' ∧ ∃ base K M rk V P, w2.heap.size ≤ base ∧ KpAt w' base K M rk (anTo (rkF (preR l 0) (preR l 0).length) l (preR l 0) (preR l 0).length) V P ∧ e = .returned (.tuple #[.agg #[V 0, V 1, V 2, V 3], .int .i64 0])) fun e w' h => ⟨h.1, (h.2.resolve_left fun h => h.1 HC.out).2⟩)
    have T := tree_of hc
    have hfew := T.all_few
    have HIN := Lib.hid (fun x hx => by obtain ⟨k, h1, h2, _⟩ := T.all_chain.2.2 x hx; exact (⟨k, h1, h2⟩ : ∃ k : Nat, x = (k : Int) ∧ k < l.length))
    have HFW := Lib.hid (fun k i => an_few (rk := rkF (preR l 0) (preR l 0).length) (xs := preR l 0) (good_vals (good_of hc)) k i)
    have HVAL := Lib.hid (good_vals (good_of hc))
    have HOR : Hid (∀ W, Below w2.heap.size w2 W → Calls Tryd.prog 13 #[.agg #[.slice A k c, .bool q]] W fun e w' => Below W.heap.size W w' ∧ ∃ v, e = .returned (.tuple #[v, .int .i64 0]) ∧ OwnF (tInt .i64) w' W.heap.size 3 v (preR l 0).length (preR l 0)) := fun W hW => (order_any A k c l q W B (H2.out.doc.below hW H2.out.le) (Nat.le_trans H2.out.le hW.size)).mono fun e w' h => ⟨h.1, (h.2.resolve_left fun h => h.1 HC.out).2⟩
    have HPOS : Hid (0 < k) := by have := H2.out.doc.hn; have := T.pos; show 0 < k; omega
    generalize hrk : rkF (preR l 0) (preR l 0).length = rk at *
    generalize hxs : preR l 0 = xs at *
    clear hc T HOF hrk hxs
    go_upto_region 3 with (go_at_call 12; refine HOF2.out.mono ?_; rintro e w3 ⟨hb3, base, K, M, rk2, V, P, hbase, hkp, rfl⟩; obtain ⟨A0, m0, h0'⟩ := Own.form (hkp.lists 0 (by decide)).row; obtain ⟨A1, m1, h1'⟩ := Own.form (hkp.lists 1 (by decide)).row; obtain ⟨A2', m2, h2'⟩ := Own.form (hkp.lists 2 (by decide)).row; obtain ⟨A3, m3, h3'⟩ := Own.form (hkp.lists 3 (by decide)).row; rw [h0', h1', h2', h3'])
    have hs1 : Sl tRef w3 (lt w3.heap.size) A1 (anTo rk l xs xs.length 1).length m1 (anTo rk l xs xs.length 1) := by have h := hkp.lists 1 (by decide); rw [h1'] at h; exact h.sl.2
    have hs2 : Sl tRef w3 (lt w3.heap.size) A2' (anTo rk l xs xs.length 2).length m2 (anTo rk l xs xs.length 2) := by have h := hkp.lists 2 (by decide); rw [h2'] at h; exact h.sl.2
    have HR1 := Lib.hid (hkp.ok 1 (by decide)).up
    have HR2 := Lib.hid (hkp.ok 2 (by decide)).up
    have HTG := Lib.hid (fun r z (hr : r ∈ anTo rk l xs xs.length 2) (hz : z ∈ r.2) => an_tag hr hz)
    have hf1 := HFW.out xs.length 1
    have hf2 := HFW.out xs.length 2
    obtain ⟨w4, hw4⟩ : ∃ w4, w4 = w3.alloc (.cells #[.slice A0 (anTo rk l xs xs.length 0).length m0, .slice A1 (anTo rk l xs xs.length 1).length m1, .slice A2' (anTo rk l xs xs.length 2).length m2, .slice A3 (anTo rk l xs xs.length 3).length m3] 37) := ⟨_, rfl⟩
    have hx4 : w4.heap[w3.heap.size]? = some (.cells #[.slice A0 (anTo rk l xs xs.length 0).length m0, .slice A1 (anTo rk l xs xs.length 1).length m1, .slice A2' (anTo rk l xs xs.length 2).length m2, .slice A3 (anTo rk l xs xs.length 3).length m3] 37 (0, 0)) := by rw [hw4]; exact heap_alloc_new w3 _
    have hb34 : Below w3.heap.size w3 w4 := by rw [hw4]; exact balloc (Below.refl _ _) _
    have hb4 : Below w2.heap.size w2 w4 := bstep hb3 hb34
    rw [← hw4]
    have hs1' := hs1.below hb34 (Nat.le_refl _)
    have hs2' := hs2.below hb34 (Nat.le_refl _)
    obtain ⟨T1, hT1⟩ : ∃ T1, anTo rk l xs xs.length 1 = T1 := ⟨_, rfl⟩
    obtain ⟨T2, hT2⟩ : ∃ T2, anTo rk l xs xs.length 2 = T2 := ⟨_, rfl⟩
    have HT1 := Lib.hid hT1
    have HT2 := Lib.hid hT2
    rw [hT1] at hs1' HR1 hf1 hx4
    rw [hT2] at hs2' HR2 HTG hf2 hx4
    generalize (anTo rk l xs xs.length 0).length = n0 at *
    generalize (anTo rk l xs xs.length 3).length = n3 at *
    have HS1 := Lib.hid hs1'
    have HS2 := Lib.hid hs2'
    have HX4 := Lib.hid hx4
    have H4 := Lib.hid (H2.out.next hb4)
    have HOR4 := Lib.hid (HOR.out w4 hb4)
    have HWL : Hid (w3.heap.size ≤ w4.heap.size) := hb34.size
    have x0 := H4.out.c0
    have x1 := H4.out.c1
    clear hw4 hb3 hb4 hb34 z0 z1 HOF2 h0' h1' h2' h3' hs1 hs2 hs1' hs2' hT1 hT2 hkp hx4 HOR
    obtain ⟨X, hX⟩ : ∃ X, w3.heap.size = X := ⟨_, rfl⟩
    rw [hX] at HX4 HS1 HS2 HWL ⊢
    clear hX hbase
    go_upto_region 4 with (go_at_call 13; refine HOR4.out.mono ?_; rintro e w5 ⟨hb5, v, rfl, hown⟩; obtain ⟨A5, c5, rfl⟩ := Own.form hown)
    obtain ⟨_, _, e0, hsl⟩ := OwnF.sl hown (by decide) (by show xs.length * 8 ≤ _; omega)
    injection e0 with e1 _ e2
    subst e1 e2
    have HSX := Lib.hid hsl
    have H5 := Lib.hid (H4.out.next hb5)
    have HS15 := Lib.hid ((HS1.out.up HWL.out).below hb5 (Nat.le_refl _))
    have HS25 := Lib.hid ((HS2.out.up HWL.out).below hb5 (Nat.le_refl _))
    have HX5 := Lib.hid ((hb5.block X (Array.getElem?_eq_some_iff.1 HX4.out).1).trans HX4.out)
    have HZ45 : Hid (w4.heap.size ≤ w5.heap.size) := hb5.size
    obtain ⟨b, o, rfl, hd⟩ := doc_at H5.out.doc HPOS.out
    have HD := Lib.hid hd
    clear hb5 hown hsl hd x0 x1 HOR4 HS1 HS2 H4 HX4 H2
    obtain ⟨nx, hnx⟩ : ∃ nx, xs.length = nx := ⟨_, rfl⟩
    have HNX := Lib.hid hnx
    rw [hnx] at HSX hfew hf1 hf2 ⊢
    clear hnx
    go_wp2_with fail
    go_loopw [48, 7, 8] (fun s s7 s8 wr => ∃ (j a d : Nat), j ≤ nx ∧ s = .int .i64 (j : Int) ∧ s7 = .int .i64 (a : Int) ∧ s8 = .int .i64 (d : Int) ∧ a ≤ 402 * j ∧ d ≤ 402 * j ∧ Below w5.heap.size w5 wr ∧ Hid (a = allN (anTo rk l xs j 2) ∧ d = allN (anTo rk l xs j 1))) (fun s _ _ _ => nx - (intOf s).toNat)
    case atStart => exact ⟨0, 0, 0, Nat.zero_le _, rfl, rfl, rfl, Nat.zero_le _, Nat.zero_le _, Below.refl _ _, Lib.hid ⟨rfl, rfl⟩⟩
    case round =>
      obtain ⟨j, a, d, hj, rfl, rfl, rfl, ha, hd, hb, HE⟩ := hrel
      have H6 := Lib.hid (H5.out.next hb)
      have x0 := H6.out.c0
      have x1 := H6.out.c1
      have HBR := Lib.hid hb
      by_cases hlt : j < nx
      · obtain ⟨z, hz⟩ : ∃ z, xs[j]? = some z := get_some (by have := HNX.out; omega)
        obtain ⟨b2, o2, rfl, _, c1, hwf⟩ := (HSX.out.below hb (Nat.le_refl _)).int hz
        obtain ⟨m, rfl, hm⟩ := HIN.out z (List.mem_of_getElem? hz)
        obtain ⟨x, hx⟩ := get_some hm
        obtain ⟨Aa, na, ca, Ak, nk, ck, hnat, d0, d1, d2, d3, d4, d5⟩ := (HD.out.below hb H5.out.le).at_ m x hx
        have hnd : ndG l (m : Int) = x := by unfold ndG; rw [Int.toNat_natCast, hx]; rfl
        have hb1 := HFW.out (j + 1) 1
        have hb2 := HFW.out (j + 1) 2
        have h1 := an_one (rk := rk) hz hnd
        have h2 := an_two (rk := rk) hz hnd
        obtain ⟨he1, he2⟩ := HE.out
        have i1 : (0 : Int) ≤ (m : Int) := by omega
        have i2 : (m : Int) < (k : Int) := by have := HD.out.hn; omega
        have HAT := Lib.hid (fun hk2 : x.kind = 2 => attrEl_any (some ⟨b, o, none⟩) k c l q m x classB wr B H6.out.doc H6.out.le HC.out hx hk2)
        have HWD := Lib.hid (fun W => words_any (ofA x.attrs classB) W (Nat.le_trans (ofA_small (HVAL.out x (List.mem_of_getElem? hx)) classB) (by decide)))
        clear hz hx hm hnat hnd hwf hb d1 d2 d3 d4 d5
        by_cases hk2 : x.kind = 2
        · rw [if_pos hk2] at h1 h2
          have HE2 : Hid (a + 1 = allN (anTo rk l xs (j + 1) 2) ∧ d + (wordsL (ofA x.attrs classB)).length = allN (anTo rk l xs (j + 1) 1)) := ⟨by omega, by omega⟩
          have HAT2 := Lib.hid (HAT.out hk2)
          generalize hnw : (wordsL (ofA x.attrs classB)).length = nw at *
          have hle : d + nw ≤ 402 * (j + 1) := by have := HE2.out; omega
          have HNW := Lib.hid hnw
          have hk3 : (x.kind == 2) = true := by rw [hk2]; rfl
          clear h1 h2 he1 he2 hb1 hb2 hk2 HAT HE hnw
          go_wp2_with (first | (go_at_call 15; refine HAT2.out.mono ?_; rintro e w6 ⟨⟨bb, rfl⟩, hb6⟩) | (go_at_call 16; refine (HWD.out _).mono ?_; rintro e w7 ⟨hb7, A7, c7, rfl, _⟩; rw [HNW.out]))
          go_roundw
          case rel => exact ⟨j + 1, a + 1, d + nw, by omega, by go_num, by go_num, by go_num, by omega, hle, bstep (bstep HBR.out hb6) hb7, HE2⟩
          case measure => simp [intOf]; omega
        · rw [if_neg hk2] at h1 h2
          have HE2 : Hid (a = allN (anTo rk l xs (j + 1) 2) ∧ d = allN (anTo rk l xs (j + 1) 1)) := ⟨by omega, by omega⟩
          have hk3 : (x.kind == 2) = false := beq_eq_false_iff_ne.2 hk2
          clear h1 h2 he1 he2 hb1 hb2 hk2 HAT HE HWD
          go_wp2_with fail
          go_roundw
          case rel => exact ⟨j + 1, a, d, by omega, by go_num, rfl, rfl, by omega, by omega, HBR.out, HE2⟩
          case measure => simp [intOf]; omega
      · obtain rfl : nx = j := by omega
        obtain ⟨he1, he2⟩ := HE.out
        have HA : Hid (a = allN T2) := by show a = _; rw [he1, ← show xs.length = nx from HNX.out, HT2.out]
        have HD2 : Hid (d = allN T1) := by show d = _; rw [he2, ← show xs.length = nx from HNX.out, HT1.out]
        have hxr := (hb.block X (Array.getElem?_eq_some_iff.1 HX5.out).1).trans HX5.out
        have HXR := Lib.hid hxr
        have u2 := cell_blk (i := 2) hxr rfl
        have HS28 := Lib.hid ((HS25.out.up HZ45.out).below hb (Nat.le_refl _))
        have HS18 := Lib.hid ((HS15.out.up HZ45.out).below hb (Nat.le_refl _))
        have HZ58 : Hid (w5.heap.size ≤ wr.heap.size) := hb.size
        have H6b := Lib.hid hb
        clear he1 he2 HE hxr hb HS25 HS15
        obtain ⟨wo, rfl⟩ : ∃ wo : World, wo = wr := ⟨_, rfl⟩
        obtain ⟨n2, hn2⟩ : ∃ n2, T2.length = n2 := ⟨_, rfl⟩
        obtain ⟨n1, hn1⟩ : ∃ n1, T1.length = n1 := ⟨_, rfl⟩
        have HN2 := Lib.hid hn2
        have HN1 := Lib.hid hn1
        rw [hn2] at u2 HS28 HXR
        rw [hn1] at HS18 HXR
        have hsm2 := HS28.out.small
        have hsm1 := HS18.out.small
        clear hn1 hn2
        go_wp2_with fail
        go_loopw [79, 9] (fun s s9 wq => ∃ (j t : Nat), j ≤ n2 ∧ s = .int .i64 (j : Int) ∧ s9 = .int .i64 (t : Int) ∧ t ≤ 100000 ∧ Below wo.heap.size wo wq ∧ Hid (t = allN (T2.take j))) (fun s _ _ => n2 - (intOf s).toNat)
        case atStart => exact ⟨0, 0, Nat.zero_le _, rfl, rfl, Nat.zero_le _, Below.refl _ _, Lib.hid rfl⟩
        case round =>
          obtain ⟨j, t, hj, rfl, rfl, ht, hb, HE⟩ := hrel
          have H9 := Lib.hid (H6.out.next hb)
          have x0 := H9.out.c0
          have hxq := (hb.block X (Nat.lt_of_lt_of_le (Array.getElem?_eq_some_iff.1 HX5.out).1 HZ58.out)).trans HXR.out
          have u2 := cell_blk (i := 2) hxq rfl
          have HBQ := Lib.hid hb
          by_cases hlt : j < n2
          · obtain ⟨r, hr⟩ : ∃ r, T2[j]? = some r := get_some (by have := HN2.out; omega)
            have hsq := HS28.out.below hb HZ58.out
            obtain ⟨b3, o3, Av, cv, rfl, hb3, c1, c2, hrw, hsn⟩ := ref_cells hsq hr
            obtain ⟨w9, hw9⟩ : ∃ w9, w9 = wr.alloc (.cells #[.string r.1, .slice Av r.2.length cv] 51) := ⟨_, rfl⟩
            have hb9 : Below wr.heap.size wr w9 := by rw [hw9]; exact balloc (Below.refl _ _) _
            have hx9 : w9.heap[wr.heap.size]? = some (.cells #[.string r.1, .slice Av r.2.length cv] 51 (0, 0)) := by rw [hw9]; exact heap_alloc_new wr _
            have hal := all_take hr
            have hlen : t + r.2.length = allN (T2.take (j + 1)) := by rw [hal, ← show t = _ from HE.out]
            have hle : t + r.2.length ≤ 100000 := by have := all_le (l := T2) (j + 1); omega
            have HLEN := Lib.hid hlen
            have HB9 := Lib.hid hb9
            have HX9 := Lib.hid hx9
            have HSN := Lib.hid (hsn.below hb9 (Nat.le_trans HZ58.out hb.size))
            have HRR := Lib.hid hr
            have i1 : (0 : Int) ≤ (j : Int) := by omega
            have i2 : (j : Int) < (n2 : Int) := by omega
            clear hb9 hx9 hal hlen hsn hr hb hrw hxq
            go_upto_region 20 with fail
            rw [← hw9]
            have q0 := cell_blk (i := 0) HX9.out rfl
            have q1 := cell_blk (i := 1) HX9.out rfl
            have x0 := (H9.out.next HB9.out).c0
            have v2 : w9.cell? ⟨X, 2, none⟩ = some (.slice (some ⟨b3, o3, none⟩) n2 m2) := cell_be u2 HB9.out
            clear hw9 u2 c1 c2
            go_upto_region 21 with fail
            go_cut [102] (fun g wx => g = .bool false ∧ Below w9.heap.size w9 wx)
            case first =>
              by_cases h0 : 0 < j
              · obtain ⟨p, rfl⟩ : ∃ p, j = p + 1 := ⟨j - 1, by omega⟩
                obtain ⟨r0, hr0⟩ : ∃ r0, T2[p]? = some r0 := get_some (by have := HN2.out; omega)
                obtain ⟨b4, o4, Av4, cv4, e4, _, g1, _, _, _⟩ := ref_cells ((HS28.out.below HBQ.out HZ58.out).below HB9.out (Nat.le_trans HZ58.out HBQ.out.size)) hr0
                injection e4 with e4
                injection e4 with e5 e6
                subst e5 e6
                have hrise : Op.bytesLess r0.1.toList r.1.toList = true := rise_at HR2.out (k := p + 1) (by omega) (by simpa using hr0) HRR.out
                have hgt : decide ((0 : Int) < ((p + 1 : Nat) : Int)) = true := by rw [decide_eq_true_eq]; omega
                have hwr : IntKind.i64.wrap (((p + 1 : Nat) : Int) - 1) = (p : Int) := by rw [show (((p + 1 : Nat) : Int) - 1) = (p : Int) from by omega]; exact IntWalk.i64_in _ (by omega)
                have k1 : (0 : Int) ≤ (p : Int) := by omega
                have k2 : (p : Int) < (n2 : Int) := by omega
                clear hr0 h0
                go_quiet (fail)
                go_wp2_with fail
                go_meet
                case rel => exact ⟨rfl, below_drewNg _ _⟩
              · have hgt : decide ((0 : Int) < (j : Int)) = false := by simp; omega
                go_quiet (fail)
                go_wp2_with fail
                go_meet
                case rel => exact ⟨rfl, below_drewNg _ _⟩
            case rest =>
            obtain ⟨rfl, hbc⟩ := hcut
            have q1 := cell_be q1 hbc
            have HQ0 := Lib.hid (cell_be q0 hbc)
            have HBC := Lib.hid hbc
            have HC9 := Lib.hid ((H9.out.next HB9.out).next hbc)
            have HSC := Lib.hid (HSN.out.below hbc (Nat.le_trans (Nat.le_trans HZ58.out HBQ.out.size) HB9.out.size))
            have HSZ : Hid (w5.heap.size ≤ wc.heap.size) := Nat.le_trans (Nat.le_trans (Nat.le_trans HZ58.out HBQ.out.size) HB9.out.size) hbc.size
            have hnr := HSC.out.small
            clear hbc v2 q0 x0
            obtain ⟨nr, hnr2⟩ : ∃ nr, r.2.length = nr := ⟨_, rfl⟩
            have HNR := Lib.hid hnr2
            rw [hnr2] at q1 HSC hnr hle HLEN ⊢
            clear hnr2
            go_wp2_with fail
            obtain ⟨wp, rfl⟩ : ∃ wp : World, wp = wr := ⟨_, rfl⟩
            go_loopw [106] (fun s wq => ∃ (i : Nat), i ≤ nr ∧ s = .int .i64 (i : Int) ∧ Below wc.heap.size wc wq) (fun s _ => nr - (intOf s).toNat)
            case atStart => exact ⟨0, Nat.zero_le _, rfl, Below.refl _ _⟩
            case round =>
              obtain ⟨i, hi, rfl, hbi⟩ := hrel
              have q0 := cell_be HQ0.out hbi
              have HBI := Lib.hid hbi
              have x0 := (HC9.out.next hbi).c0
              by_cases hil : i < nr
              · obtain ⟨z, hz⟩ : ∃ z, r.2[i]? = some z := get_some (by have := HNR.out; omega)
                obtain ⟨b6, o6, rfl, _, c6, hwf⟩ := (HSC.out.below hbi HSZ.out).int hz
                obtain ⟨hzx, hznm⟩ := HTG.out r z (List.mem_of_getElem? HRR.out) (List.mem_of_getElem? hz)
                obtain ⟨m, rfl, hm⟩ := HIN.out z hzx
                obtain ⟨x, hx⟩ := get_some hm
                have hnd : ndG l (m : Int) = x := by unfold ndG; rw [Int.toNat_natCast, hx]; rfl
                rw [hnd] at hznm
                obtain ⟨Aa, na, ca, Ak, nk, ck, _, _, d1, _⟩ := (HD.out.below (bstep (bstep (bstep (bstep H6b.out HBQ.out) HB9.out) HBC.out) hbi) H5.out.le).at_ m x hx
                rw [hznm] at d1
                have hee : (r.1.toList == r.1.toList) = true := beq_self_eq_true _
                have i5 : (0 : Int) ≤ (m : Int) := by omega
                have i6 : (m : Int) < (k : Int) := by have := HD.out.hn; omega
                clear hz hzx hznm hx hm hnd hwf hbi
                go_upto_region 26 with fail
                go_quiet (fail)
                have hbq := below_drewNg wr nq
                generalize wr.drewN nq = wv at *
                go_wp2_with fail
                go_roundw
                case rel => exact ⟨i + 1, by omega, by go_num, bstep HBI.out hbq⟩
                case measure => simp [intOf]; omega
              · go_wp2_with fail
                go_roundw
                case rel => exact ⟨j + 1, t + nr, by omega, by go_num, by go_num, hle, bstep (bstep (bstep HBQ.out HB9.out) HBC.out) hbi, HLEN⟩
                case measure => simp [intOf]; omega
          · obtain rfl : n2 = j := by omega
            have HTA : Hid (t = a) := by
              show t = a
              rw [show t = _ from HE.out, List.take_of_length_le (by have := HN2.out; omega), ← show a = _ from HA.out]
            have u1 := cell_blk (i := 1) hxq rfl
            have HXQ := Lib.hid hxq
            clear hxq hb u2
            obtain ⟨wz, rfl⟩ : ∃ wz : World, wz = wr := ⟨_, rfl⟩
            have HSZ := Lib.hid (HS18.out.below HBQ.out HZ58.out)
            have HZL : Hid (w5.heap.size ≤ wz.heap.size) := Nat.le_trans HZ58.out HBQ.out.size
            go_wp2_with fail
            go_loopw [124, 10] (fun s s9 wq => ∃ (i u : Nat), i ≤ n1 ∧ s = .int .i64 (i : Int) ∧ s9 = .int .i64 (u : Int) ∧ u ≤ 100000 ∧ Below wz.heap.size wz wq ∧ Hid (u = allN (T1.take i))) (fun s _ _ => n1 - (intOf s).toNat)
            case atStart => exact ⟨0, 0, Nat.zero_le _, rfl, rfl, Nat.zero_le _, Below.refl _ _, Lib.hid rfl⟩
            case round =>
              obtain ⟨i, u, hi, rfl, rfl, hu, hbi, HEI⟩ := hrel
              have hxi := (hbi.block X (Array.getElem?_eq_some_iff.1 HXQ.out).1).trans HXQ.out
              have u1 := cell_blk (i := 1) hxi rfl
              have HBI := Lib.hid hbi
              by_cases hlt : i < n1
              · obtain ⟨r, hr⟩ : ∃ r, T1[i]? = some r := get_some (by have := HN1.out; omega)
                have hsq := HSZ.out.below hbi HZL.out
                obtain ⟨b3, o3, Av, cv, rfl, hb3, c1, c2, hrw, hsn⟩ := ref_cells hsq hr
                obtain ⟨w9, hw9⟩ : ∃ w9, w9 = wr.alloc (.cells #[.string r.1, .slice Av r.2.length cv] 51) := ⟨_, rfl⟩
                have hb9 : Below wr.heap.size wr w9 := by rw [hw9]; exact balloc (Below.refl _ _) _
                have hx9 : w9.heap[wr.heap.size]? = some (.cells #[.string r.1, .slice Av r.2.length cv] 51 (0, 0)) := by rw [hw9]; exact heap_alloc_new wr _
                have hal := all_take hr
                have hlen : u + r.2.length = allN (T1.take (i + 1)) := by rw [hal, ← show u = _ from HEI.out]
                have hle : u + r.2.length ≤ 100000 := by have := all_le (l := T1) (i + 1); omega
                have HLEN := Lib.hid hlen
                have HB9 := Lib.hid hb9
                have HRR := Lib.hid hr
                have i1 : (0 : Int) ≤ (i : Int) := by omega
                have i2 : (i : Int) < (n1 : Int) := by omega
                have q0 := cell_blk (i := 0) hx9 rfl
                have q1 := cell_blk (i := 1) hx9 rfl
                have v2 : w9.cell? ⟨X, 1, none⟩ = some (.slice (some ⟨b3, o3, none⟩) n1 m1) := cell_be u1 hb9
                clear hb9 hx9 hal hlen hsn hr hrw hxi
                go_upto_region 33 with fail
                rw [← hw9]
                clear hw9 u1 c1 c2
                go_upto_region 34 with fail
                go_cut [147] (fun g wx => g = .bool false ∧ Below w9.heap.size w9 wx)
                case first =>
                  by_cases h0 : 0 < i
                  · obtain ⟨p, rfl⟩ : ∃ p, i = p + 1 := ⟨i - 1, by omega⟩
                    obtain ⟨r0, hr0⟩ : ∃ r0, T1[p]? = some r0 := get_some (by have := HN1.out; omega)
                    obtain ⟨b4, o4, Av4, cv4, e4, _, g1, _, _, _⟩ := ref_cells ((HSZ.out.below HBI.out HZL.out).below HB9.out (Nat.le_trans HZL.out HBI.out.size)) hr0
                    injection e4 with e4
                    injection e4 with e5 e6
                    subst e5 e6
                    have hrise : Op.bytesLess r0.1.toList r.1.toList = true := rise_at HR1.out (k := p + 1) (by omega) (by simpa using hr0) HRR.out
                    have hgt : decide ((0 : Int) < ((p + 1 : Nat) : Int)) = true := by rw [decide_eq_true_eq]; omega
                    have hwr : IntKind.i64.wrap (((p + 1 : Nat) : Int) - 1) = (p : Int) := by rw [show (((p + 1 : Nat) : Int) - 1) = (p : Int) from by omega]; exact IntWalk.i64_in _ (by omega)
                    have k1 : (0 : Int) ≤ (p : Int) := by omega
                    have k2 : (p : Int) < (n1 : Int) := by omega
                    clear hr0 h0
                    go_quiet (fail)
                    go_wp2_with fail
                    go_meet
                    case rel => exact ⟨rfl, below_drewNg _ _⟩
                  · have hgt : decide ((0 : Int) < (i : Int)) = false := by simp; omega
                    go_quiet (fail)
                    go_wp2_with fail
                    go_meet
                    case rel => exact ⟨rfl, below_drewNg _ _⟩
                case rest =>
                obtain ⟨rfl, hbc⟩ := hcut
                go_wp2_with fail
                go_roundw
                case rel => exact ⟨i + 1, u + r.2.length, by omega, by go_num, by go_num, hle, bstep (bstep HBI.out HB9.out) hbc, HLEN⟩
                case measure => simp [intOf]; omega
              · obtain rfl : n1 = i := by omega
                have HUD : Hid (u = d) := by
                  show u = d
                  rw [show u = _ from HEI.out, List.take_of_length_le (by have := HN1.out; omega), ← show d = _ from HD2.out]
                obtain rfl : t = a := HTA.out
                obtain rfl : u = d := HUD.out
                have HBG9 := Lib.hid (HBG.out wr)
                have HBF := Lib.hid (H5.out.below.trans ((bstep (bstep H6b.out HBQ.out) HBI.out).mono H5.out.below.size))
                go_wp2_with (go_at_call 14; refine HBG9.out.mono ?_; rintro e w10 ⟨rfl, hb10⟩)
                go_ret
                exact ⟨by simp, HBF.out.trans (hb10.mono HBF.out.size)⟩
  · have HC := Lib.hid hc
    have hc1 : (checkD l != 0) = true := by simpa using hc
    have HOF2 := Lib.hid (HOF.out.mono (R' := fun e w' => Below w2.heap.size w2 w' ∧ e = .returned (.tuple #[.agg #[.slice none 0 0, .slice none 0 0, .slice none 0 0, .slice none 0 0], .int .i64 (checkD l)])) fun e w' h => ⟨h.1, (h.2.resolve_right fun h => HC.out h.1).2⟩)
    have HOR : Hid (∀ W, Below w2.heap.size w2 W → Calls Tryd.prog 13 #[.agg #[.slice A k c, .bool q]] W fun e w' => Below W.heap.size W w' ∧ e = .returned (.tuple #[.slice none 0 0, .int .i64 (checkD l)])) := fun W hW => (order_any A k c l q W B (H2.out.doc.below hW H2.out.le) (Nat.le_trans H2.out.le hW.size)).mono fun e w' h => ⟨h.1, (h.2.resolve_right fun h => HC.out h.1).2⟩
    generalize checkD l = e0 at *
    clear hc HOF
    go_upto_region 3 with (go_at_call 12; refine HOF2.out.mono ?_; rintro e w3 ⟨hb3, rfl⟩)
    obtain ⟨w4, hw4⟩ : ∃ w4, w4 = w3.alloc (.cells #[.slice none 0 0, .slice none 0 0, .slice none 0 0, .slice none 0 0] 37) := ⟨_, rfl⟩
    have hb4 : Below w2.heap.size w2 w4 := by rw [hw4]; exact balloc hb3 _
    rw [← hw4]
    have H4 := Lib.hid (H2.out.next hb4)
    have HOR4 := Lib.hid (HOR.out w4 hb4)
    have x0 := H4.out.c0
    have x1 := H4.out.c1
    clear hw4 hb3 hb4 z0 z1 HOF2
    go_upto_region 4 with (go_at_call 13; refine HOR4.out.mono ?_; rintro e w5 ⟨hb5, rfl⟩)
    have HB5 := Lib.hid (H4.out.below.trans (hb5.mono H4.out.below.size))
    have HBG5 := Lib.hid (HBG.out w5)
    clear hb5 x0 x1
    go_wp2_with (go_at_call 14; refine HBG5.out.mono ?_; rintro e w6 ⟨rfl, hb6⟩)
    go_ret
    exact ⟨by simp, HB5.out.trans (hb6.mono HB5.out.size)⟩
end Go.Proofs.YtfgmfmkibjfknaaDoor
