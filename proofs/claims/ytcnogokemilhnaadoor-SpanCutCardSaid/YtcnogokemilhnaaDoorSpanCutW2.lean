/-
The walks of span's cut, Cut.
-/
import Derived.Test.YtcnogokemilhnaaDoorSpanCutW
namespace Go.Proofs.YtcnogokemilhnaaDoor
open Go.RowKit Go.Cl
attribute [local go_sem ↓] Go.wp_at_zero Go.wp_at_succ

/-- What is no row of edits lies as it lay. -/
structure KeepE (w w' : World) : Prop where
  same : ∀ (k : Nat) (cs : Array Value) (e : TypeId) (fr : Nat × Nat), e ≠ 53 → w.heap[k]? = some (.cells cs e fr) → w'.heap[k]? = some (.cells cs e fr)
theorem KeepE.refl (w : World) : KeepE w w := ⟨fun _ _ _ _ _ h => h⟩
theorem KeepE.trans {a b c : World} (h : KeepE a b) (k : KeepE b c) : KeepE a c := ⟨fun i cs e fr he hi => k.same i cs e fr he (h.same i cs e fr he hi)⟩
theorem KeepE.below {w w' : World} (h : Below w.heap.size w w') : KeepE w w' := ⟨fun k _ _ _ _ hk => (h.block k (Array.getElem?_eq_some_iff.1 hk).1).trans hk⟩
theorem KeepE.own {w w' : World} {B n : Nat} {v : Value} {xs : List Edt} (h : OwnF tEdt w B 53 v n xs) (hg : w.grownBy w' v.ownBlock) : KeepE w w' := by
  obtain ⟨cells, h, _⟩ := h
  refine ⟨fun k cs e fr he hk => (hg.block k (Array.getElem?_eq_some_iff.1 hk).1 ?_).trans hk⟩
  rcases h.2 with ⟨rfl, _⟩ | ⟨g, cap, cur, rfl, _, hc, _⟩
  · simp [Value.ownBlock]
  · intro e'
    simp only [Value.ownBlock, Option.some.injEq] at e'
    subst e'
    rw [hc] at hk
    have := Option.some.inj hk
    injection this with _ h2 _
    exact he h2.symm
theorem cutL_take {f : Nat → Int → List Edt} {ks : List Int} {j : Nat} {k : Int} (h : ks[j]? = some k) : ∀ i, cutL f i (ks.take (j + 1)) = cutL f i (ks.take j) ++ f (i + j) k := by
  induction ks generalizing j with
  | nil => simp at h
  | cons x r ih =>
    intro i
    cases j with
    | zero =>
      obtain rfl := Option.some.inj h
      simp [cutL]
    | succ j =>
      have h : r[j]? = some k := h
      rw [List.take_succ_cons, List.take_succ_cons, cutL, cutL, ih h (i + 1), List.append_assoc, show i + 1 + j = i + (j + 1) by omega]
theorem cutL_len {f : Nat → Int → List Edt} {ks : List Int} {j : Nat} {k : Int} (h : ks[j]? = some k) : ∀ i, (cutL f i (ks.take j)).length + (f (i + j) k).length ≤ (cutL f i ks).length := by
  induction ks generalizing j with
  | nil => simp at h
  | cons x r ih =>
    intro i
    cases j with
    | zero =>
      obtain rfl := Option.some.inj h
      simp [cutL]
    | succ j =>
      have h : r[j]? = some k := h
      have := ih h (i + 1)
      rw [show i + 1 + j = i + (j + 1) by omega] at this
      rw [List.take_succ_cons, cutL, cutL, List.length_append, List.length_append]
      omega
/-- An edit that has but a number and a text: how it lies. -/
theorem e_rep (w : World) (D : Nat → Prop) (d k : Int) (t : ByteArray) (hd : (Lit.int .i64 d).wf = true) (hk : (Lit.int .i64 k).wf = true) (ht : t.size ≤ 1152921504606846976) :
    tEdt.rep w D ⟨d, k, 0, 0, ⟨#[]⟩, t, zNd⟩ (edtCells ⟨d, k, 0, 0, ⟨#[]⟩, t, zNd⟩ none 0 0 none 0 0).toList :=
  edt_rep ⟨⟨Sl.nil, Sl.nil, (by decide : (Lit.int .i64 0).wf = true), (by decide : (⟨#[]⟩ : ByteArray).size ≤ 1152921504606846976), (by decide : (⟨#[]⟩ : ByteArray).size ≤ 1152921504606846976), (by decide : (Lit.int .i64 0).wf = true)⟩, hk, (by decide : (Lit.int .i64 0).wf = true), (by decide : (Lit.int .i64 0).wf = true), (by decide : (⟨#[]⟩ : ByteArray).size ≤ 1152921504606846976), ht⟩ hd
/-- The boxes of cut: the ranger, the range. -/
structure UB (w : World) (A : Option Addr) (n c : Nat) (q : Bool) (a b : Pt) (u : World) : Prop where
  r_ : u.heap[w.heap.size]? = some (.cells #[.slice A n c, .bool q] 106 (0, 0))
  s_ : u.heap[w.heap.size + 1]? = some (.cells #[.int .i64 a.node, .int .i64 a.at_, .int .i64 b.node, .int .i64 b.at_] 63 (0, 0))
theorem UB.keep {w : World} {A : Option Addr} {n c : Nat} {q : Bool} {a b : Pt} {u u' : World} (h : UB w A n c q a b u) (hk : KeepE u u') : UB w A n c q a b u' :=
  ⟨hk.same _ _ _ _ (by decide) h.r_, hk.same _ _ _ _ (by decide) h.s_⟩
set_option maxRecDepth 100000 in
set_option maxHeartbeats 16000000 in
theorem cut_any (l : List Nd) (G : Good l) (bb o n c : Nat) (q : Bool) (a b : Pt) (ma mb : Nat) (ha : PtT l a ma) (hb : PtT l b mb) (hab : orderR l a b ≤ 0) (hwa : wfP a) (hwb : wfP b) (f : Nat) : ∀ (m : Nat) (xs : List Edt) (v : Value) (w : World) (base : Nat), Tr l m → upN l m + f = 41 → OwnF tEdt w base 53 v xs.length xs → Sl tNd w (lt base) (some ⟨bb, o, none⟩) n c l → base ≤ w.heap.size → xs.length + (cutF l a b f m).length ≤ 200 →
    Calls Tryd.prog 69 #[.agg #[.slice (some ⟨bb, o, none⟩) n c, .bool q], .int .i64 (m : Int), .agg #[.int .i64 a.node, .int .i64 a.at_, .int .i64 b.node, .int .i64 b.at_], v] w fun e' w' => ∃ v', e' = .returned v' ∧ OwnF tEdt w' base 53 v' (xs ++ cutF l a b f m).length (xs ++ cutF l a b f m) ∧ Below base w w' ∧ KeepE w w' := by
  induction f with
  | zero =>
    intro m xs v w base tm hf
    have := ((tree_of (check_of G)).deep m tm.lt).1
    omega
  | succ f ih =>
    intro m xs v w base tm hf hown hl hB hlen
    have T := tree_of (check_of G)
    have IH := Lib.hid ih
    have HG := Lib.hid G
    have HT := Lib.hid T
    have HA := Lib.hid ha
    have HPB := Lib.hid hb
    have HAB := Lib.hid hab
    have HTM := Lib.hid tm
    have HLEN : Hid (xs.length + (cutL (fun i k => cutK l a b (cutF l a b f) m i k) 0 (kidsD l m)).length ≤ 200) := hlen
    have HUP : Hid (∀ (i : Nat) z, (kidsD l m)[i]? = some z → ∃ k : Nat, z = (k : Int) ∧ k < l.length ∧ Tr l k ∧ upN l k + f = 41) := fun i z hz => by
      obtain ⟨k, e, hk, hpar⟩ := T.kid tm.lt (List.mem_of_getElem? hz)
      exact ⟨k, e, hk, Tr.step hk hpar tm, by have := (T.up_par hk hpar).2; omega⟩
    have hml := tm.lt
    have hn200 : n ≤ 200 := by have := hl.hn; have := T.small; omega
    have hmn : m < n := by have := hl.hn; omega
    have HN := Lib.hid hl.hn
    have hcap := hl.hc
    obtain ⟨A3, c3, rfl⟩ := Own.form hown
    obtain ⟨wa, hwa'⟩ : ∃ wa, wa = w.alloc (.cells #[.slice (some ⟨bb, o, none⟩) n c, .bool q] 106) := ⟨_, rfl⟩
    obtain ⟨w0, hw0⟩ : ∃ w0, w0 = wa.alloc (.cells #[.int .i64 a.node, .int .i64 a.at_, .int .i64 b.node, .int .i64 b.at_] 63) := ⟨_, rfl⟩
    have za : wa.heap.size = w.heap.size + 1 := by rw [hwa']; exact World.size_alloc w _
    have hb0 : Below w.heap.size w w0 := by rw [hw0, hwa']; exact ((Below.refl _ _).alloc (Nat.le_refl _) _).alloc (by simp) _
    have hub : UB w (some ⟨bb, o, none⟩) n c q a b w0 := by
      refine ⟨?_, ?_⟩
      · rw [hw0, Lib.alloc_old _ _ _ (by omega), hwa']; exact heap_alloc_new w _
      · rw [hw0, ← za]; exact heap_alloc_new wa _
    have HUB := Lib.hid hub
    have HB0 := Lib.hid (hb0.mono hB)
    have HK0 := Lib.hid (KeepE.below hb0)
    have HO0 : Hid (OwnF tEdt w0 base 53 (.slice A3 xs.length c3) xs.length xs) := hown.below hb0 (Nat.le_refl _)
    have HL0 := Lib.hid (hl.below hb0 hB)
    have HBZ : Hid (base ≤ w0.heap.size) := Nat.le_trans hB hb0.size
    obtain ⟨nd, hnd⟩ := get_some hml
    obtain ⟨b2, o2, e2, hd⟩ := doc_at HL0.out (by omega)
    simp only [Option.some.injEq, Addr.mk.injEq, and_true] at e2
    obtain ⟨rfl, rfl⟩ := e2
    obtain ⟨Aa, na, ca, Ak, nk, ck, hnat, _, _, _, _, _, c5⟩ := hd.at_ m nd hnd
    have hks := hnat.kids
    rw [← kidsD_at hnd] at hks
    have hnk := hks.small
    have HKN := Lib.hid hks.hn
    have hck := hks.hc
    have HKS := Lib.hid hks
    have i1 : (0 : Int) ≤ (m : Int) := by omega
    have i2 : (m : Int) < (n : Int) := by omega
    have x0 := cell_blk (i := 0) hub.r_ rfl
    have x1 := cell_blk (i := 1) hub.r_ rfl
    have HWA := Lib.hid hwa
    have HWB := Lib.hid hwb
    clear ih G T ha hb hab tm hown hl hlen hub hb0 za hnd hd hnat hks hml hwa hwb
    go_enter Tryd.func69, Tryd.ntmps69
    go_upto_region 1 with fail
    rw [← hwa', ← hw0]
    clear hwa' hw0
    go_upto_region 2 with fail
    generalize hks : kidsD l m = ks at *
    go_loopw [22, 3] (fun s u wr => ∃ (j : Nat) (ys : List Edt), j ≤ nk ∧ s = .int .i64 (j : Int) ∧ Below base w0 wr ∧ KeepE w0 wr ∧ OwnF tEdt wr base 53 u ys.length ys ∧ Hid (ys = xs ++ cutL (fun i k => cutK l a b (cutF l a b f) m i k) 0 (ks.take j))) (fun s _ _ => nk - (intOf s).toNat)
    case atStart => exact ⟨0, xs, Nat.zero_le _, rfl, Below.refl _ _, KeepE.refl _, HO0.out, Lib.hid (by simp [cutL])⟩
    case round =>
      obtain ⟨j, ys, hj, rfl, hbr, hkr, hown, HY⟩ := hrel
      have HBR := Lib.hid hbr
      have HKR := Lib.hid hkr
      have HOW := Lib.hid hown
      obtain ⟨A4, c4, rfl⟩ := Own.form hown
      by_cases hlt : j < nk
      · obtain ⟨z, hz⟩ : ∃ z, ks[j]? = some z := get_some (by have := HKN.out; omega)
        obtain ⟨k, rfl, hkl, tk, hup⟩ := HUP.out j z hz
        have HZ := Lib.hid hz
        have HBW : Hid (base ≤ wr.heap.size) := Nat.le_trans HBZ.out HBR.out.size
        have HLR := Lib.hid (HL0.out.below HBR.out (Nat.le_refl _))
        have HUR := Lib.hid (HUB.out.keep HKR.out)
        obtain ⟨y, hy⟩ := get_some hkl
        have hkn : k < n := by have := HN.out; omega
        obtain ⟨b3, o3, e3, hd⟩ := doc_at HLR.out (by omega)
        simp only [Option.some.injEq, Addr.mk.injEq, and_true] at e3
        obtain ⟨rfl, rfl⟩ := e3
        obtain ⟨Ay, ny, cy, By, my, dy, hny, q0, q1, q2, q3, q4, q5⟩ := hd.at_ k y hy
        have hyt : y.text.size ≤ 400 := ((nodeE_iff y).1 (HG.out.each y (List.mem_of_getElem? hy))).2.2.2.1
        obtain ⟨gk, ok, e4, _, cx, _⟩ := (HKS.out.below HBR.out (Nat.le_refl _)).int hz
        subst e4
        have i3 : (0 : Int) ≤ (k : Int) := by omega
        have i4 : (k : Int) < (n : Int) := by omega
        have i5 : (0 : Int) ≤ (j : Int) := by omega
        have i6 : (j : Int) < (nk : Int) := by omega
        have HKD := Lib.hid (kindD_at hy)
        have HTD := Lib.hid (textD_at hy)
        have HKL := Lib.hid hkl
        have HTK := Lib.hid tk
        have HUK := Lib.hid hup
        have hyl : ys.length + (cutK l a b (cutF l a b f) m j k).length ≤ 200 := by
          have h1 := HLEN.out
          have h2 := cutL_len (f := fun i k => cutK l a b (cutF l a b f) m i k) hz 0
          have h3 := congrArg List.length HY.out
          rw [List.length_append] at h3
          rw [Nat.zero_add] at h2
          omega
        have HYL := Lib.hid hyl
        have z0 := cell_blk (i := 0) HUR.out.r_ rfl
        clear hbr hkr hown hz hkl tk hup hy hd hny hyl
        go_upto_region 5 with fail
        obtain ⟨w1, hw1⟩ : ∃ w1, w1 = wr.alloc (.cells #[.int .i64 y.kind, .string y.name, .slice Ay ny cy, .string y.text, .int .i64 y.parent, .slice By my dy] 38) := ⟨_, rfl⟩
        rw [← hw1]
        have hb1 : Below wr.heap.size wr w1 := by rw [hw1]; exact (Below.refl _ _).alloc (Nat.le_refl _) _
        have HX1 : Hid (w1.heap[wr.heap.size]? = some (.cells #[.int .i64 y.kind, .string y.name, .slice Ay ny cy, .string y.text, .int .i64 y.parent, .slice By my dy] 38 (0, 0))) := by rw [hw1]; exact heap_alloc_new wr _
        have HB1 := Lib.hid hb1
        have HU1 := Lib.hid (HUR.out.keep (KeepE.below hb1))
        have HWI : Hid (∀ (W : World) (u : Pt) (mu : Nat), PtT l u mu → Below w1.heap.size w1 W → Calls Tryd.prog 102 #[.agg #[.slice (some ⟨bb, o, none⟩) n c, .bool q], .int .i64 u.node, .int .i64 (k : Int)] W fun e' w' => e' = .returned (.bool (belowB l u.node k)) ∧ Below W.heap.size W w') := fun W u mu hu hW => by
          have h1 : Below wr.heap.size wr W := HB1.out.trans (hW.mono HB1.out.size)
          rw [hu.node]
          exact within_any _ n c l q mu k W base (HLR.out.below (h1.mono HBW.out) (Nat.le_refl _)) (Nat.le_trans HBW.out h1.size) HT.out hu.tr.lt
        have HW1 := Lib.hid (HWI.out w1 a ma HA.out (Below.refl _ _))
        have HW2 := Lib.hid (fun W hW => HWI.out W b mb HPB.out hW)
        have HTB := Lib.hid (show touB l a b k = (belowB l a.node k || belowB l b.node k) from rfl)
        have z0 := cell_blk (i := 0) HU1.out.r_ rfl
        have z1 := cell_blk (i := 1) HU1.out.r_ rfl
        have s0 := cell_blk (i := 0) HU1.out.s_ rfl
        clear hw1 hb1 q0 q1 q2 q3 q4 q5 cx HWI
        go_cut [12] (fun v wx => v = .bool (touB l a b k) ∧ Below w1.heap.size w1 wx)
        case first =>
          generalize touB l a b k = t0 at *
          generalize belowB l a.node k = ta at *
          generalize belowB l b.node k = tb at *
          cases ta
          · go_wp2_with (first
              | (go_at_call 102; with_reducible refine HW1.out.mono ?_; rintro e' w2 ⟨rfl, hb2⟩; have HB2 := Lib.hid hb2; have HU2 := Lib.hid (HU1.out.keep (KeepE.below hb2)); have y0 := cell_blk (i := 0) HU2.out.r_ rfl; have y1 := cell_blk (i := 1) HU2.out.r_ rfl; have s2 := cell_blk (i := 2) HU2.out.s_ rfl)
              | (go_at_call 102; refine (HW2.out w2 HB2.out).mono ?_; rintro e' w3 ⟨rfl, hb3⟩))
            go_meet
            case rel => exact ⟨by rw [HTB.out]; rfl, HB2.out.trans (hb3.mono HB2.out.size)⟩
          · go_wp2_with (go_at_call 102; refine HW1.out.mono ?_; rintro e' w2 ⟨rfl, hb2⟩)
            go_meet
            case rel => exact ⟨by rw [HTB.out]; rfl, hb2⟩
        case rest =>
          obtain ⟨rfl, hbx⟩ := hcut
          obtain ⟨wx, rfl⟩ : ∃ wx : World, wx = wc := ⟨_, rfl⟩
          have HBX := Lib.hid (HB1.out.trans (hbx.mono HB1.out.size))
          have HXX := Lib.hid ((hbx.block _ (Array.getElem?_eq_some_iff.1 HX1.out).1).trans HX1.out)
          have HBWX : Hid (base ≤ wx.heap.size) := Nat.le_trans HBW.out HBX.out.size
          have HUX := Lib.hid (HUR.out.keep (KeepE.below HBX.out))
          have HOX : Hid (OwnF tEdt wx base 53 (.slice A4 ys.length c4) ys.length ys) := HOW.out.below HBX.out (Nat.le_refl _)
          have k0 := cell_blk (i := 0) HXX.out rfl
          have HTK2 := Lib.hid (show txtK l k = (decide (y.kind = 3) || decide (y.kind = 4)) from by unfold txtK; rw [HKD.out])
          clear hbx z0 z1 s0 HX1 HB1 HU1 HW1 HW2
          go_upto_region 6 with fail
          go_cut [47] (fun v wy => v = .bool (touB l a b k && txtK l k) ∧ wy = wx)
          case first =>
            generalize touB l a b k = t0 at *
            generalize txtK l k = tx at *
            cases t0
            · go_wp2_with fail
              go_meet
              case rel => exact ⟨rfl, rfl⟩
            · by_cases h3 : y.kind = 3
              · have k3 : (y.kind == 3) = true := by simpa using h3
                have HQ := Lib.hid (show tx = true from HTK2.out.trans (by rw [decide_eq_true h3]; rfl))
                clear h3
                go_wp2_with fail
                go_meet
                case rel => exact ⟨by rw [HQ.out]; rfl, rfl⟩
              · have k3 : (y.kind == 3) = false := beq_eq_false_iff_ne.2 h3
                by_cases h4 : y.kind = 4
                · have k4 : (y.kind == 4) = true := by simpa using h4
                  have HQ := Lib.hid (show tx = true from HTK2.out.trans (by rw [decide_eq_true h4, Bool.or_true]))
                  clear h3 h4
                  go_wp2_with fail
                  go_meet
                  case rel => exact ⟨by rw [HQ.out]; rfl, rfl⟩
                · have k4 : (y.kind == 4) = false := beq_eq_false_iff_ne.2 h4
                  have HQ := Lib.hid (show tx = false from HTK2.out.trans (by rw [decide_eq_false h3, decide_eq_false h4]; rfl))
                  clear h3 h4
                  go_wp2_with fail
                  go_meet
                  case rel => exact ⟨by rw [HQ.out]; rfl, rfl⟩
          case rest =>
            obtain ⟨rfl, rfl⟩ := hcut
            obtain ⟨wx, rfl⟩ : ∃ wx : World, wx = wc := ⟨_, rfl⟩
            by_cases h1 : touB l a b k = true ∧ txtK l k = true
            · have HCK := Lib.hid (show cutK l a b (cutF l a b f) m j k = if leftB (textD l k) k a b ≠ textD l k then [eText k (leftB (textD l k) k a b)] else [] from if_pos h1)
              rw [HTD.out] at HCK
              have hroom : roomD l k = y.text.size := by
                obtain ⟨y', hy'⟩ := get_some HKL.out
                have e5 : kindD l k = y'.kind := kindD_at hy'
                have e6 : textD l k = y'.text := textD_at hy'
                have hk2 : y'.kind = 3 ∨ y'.kind = 4 := by
                  have := h1.2
                  unfold txtK at this
                  rw [e5] at this
                  simpa using this
                rw [room_at hy', if_pos hk2, ← e6, HTD.out]
              have HLF := Lib.hid (left_any y.text k a b wx hyt (fun e => by
                have h5 := HA.out.high
                rw [show ma = k by have := HA.out.node; omega, hroom] at h5
                exact ⟨HA.out.low, h5⟩) (fun e => by
                have h5 := HPB.out.high
                rw [show mb = k by have := HPB.out.node; omega, hroom] at h5
                exact ⟨HPB.out.low, h5⟩))
              rw [h1.1, h1.2, Bool.and_true]
              have hls := left_small y.text k a b (fun e1 e2 => by
                have h5 := HAB.out
                unfold orderR at h5
                rw [if_pos (by rw [e1, e2])] at h5
                exact cmpI_le_iff.1 h5)
              have k3 := cell_blk (i := 3) HXX.out rfl
              have s0 := cell_blk (i := 0) HUX.out.s_ rfl
              have s1 := cell_blk (i := 1) HUX.out.s_ rfl
              have s2 := cell_blk (i := 2) HUX.out.s_ rfl
              have s3 := cell_blk (i := 3) HUX.out.s_ rfl
              obtain ⟨L, hL⟩ : ∃ L, leftB y.text k a b = L := ⟨_, rfl⟩
              rw [hL] at HLF HCK hls
              clear h1 hroom hL k0
              go_upto_region 8 with (go_at_call 103; refine HLF.out.mono ?_; rintro e' w5 ⟨rfl, hb5⟩)
              have HB5 := Lib.hid hb5
              have HX5 := Lib.hid ((hb5.block _ (Array.getElem?_eq_some_iff.1 HXX.out).1).trans HXX.out)
              have k3' := cell_blk (i := 3) HX5.out rfl
              clear k3 s0 s1 s2 s3 hb5 HLF
              have HKX := Lib.hid ((KeepE.below HBX.out).trans (KeepE.below HB5.out))
              have HBX5 := Lib.hid ((HBX.out.trans (HB5.out.mono HBX.out.size)).mono HBW.out)
              have HO5 : Hid (OwnF tEdt w5 base 53 (.slice A4 ys.length c4) ys.length ys) := HOX.out.below HB5.out (Nat.le_refl _)
              have HBWX : Hid (base ≤ w5.heap.size) := Nat.le_trans HBWX.out HB5.out.size
              by_cases hne : L = y.text
              · have HC2 := Lib.hid (HCK.out.trans (if_neg (fun h => h hne)))
                have e7 : (L.toList == y.text.toList) = true := by rw [hne]; simp
                have e8 : (L.toList != y.text.toList) = false := by rw [hne]; simp
                clear hne hls
                have HKN9 := Lib.hid (HKR.out.trans HKX.out)
                have HBN9 := Lib.hid (HBR.out.trans HBX5.out)
                have HON9 := Lib.hid (HO5.out)
                have HY2 : Hid (ys = xs ++ cutL (fun i k => cutK l a b (cutF l a b f) m i k) 0 (ks.take (j + 1))) := by
                  show _ = _
                  rw [cutL_take HZ.out, ← List.append_assoc, ← show ys = _ from HY.out, Nat.zero_add, HC2.out, List.append_nil]
                go_wp2_with fail
                go_roundw
                case rel => exact ⟨j + 1, _, by omega, by go_num, HBN9.out, HKN9.out, HON9.out, HY2⟩
                case measure => simp [intOf]; omega

              · have HC2 := Lib.hid (HCK.out.trans (if_pos hne))
                have hnl : L.toList ≠ y.text.toList := fun e => hne (by
                  rw [ByteArray.toList_eq, ByteArray.toList_eq] at e
                  exact ByteArray.ext (Array.toList_inj.1 e))
                have e7 : (L.toList == y.text.toList) = false := by simpa using hnl
                have e8 : (L.toList != y.text.toList) = true := by simpa using hnl
                have hylen : ys.length ≤ 200 := by have := HYL.out; omega
                have hkw : (Lit.int .i64 (k : Int)).wf = true := WalkArith.wf_i64 (by omega)
                have hLs : L.size ≤ 1152921504606846976 := by omega
                clear hne hnl
                have HO := Lib.hid (HO5.out)
                go_upto_region 14 with (at_builtin; refine wpList_ap1 _ rfl (.tmp 68) (.tmp 72) 54 rfl elemEdt (v := .slice A4 ys.length c4) (D := fun _ => False) rfl (OwnF.al HO.out _) (fun _ h => h.elim) (y := (⟨3, (k : Int), 0, 0, ⟨#[]⟩, L, zNd⟩ : Edt)) (cs := (edtCells (⟨3, (k : Int), 0, 0, ⟨#[]⟩, L, zNd⟩ : Edt) none 0 0 none 0 0).toList) rfl (e_rep _ _ 3 k L (by decide) hkw hLs) (cell_new _ _ _) (by omega) (by omega) (by rw [World.size_alloc]; exact Nat.le_trans HBWX.out (Nat.le_succ _)) ?_; intro v9 w9 hown9 hg9 hbl9 _)
                have hk9 : KeepE w5 w9 := (KeepE.below ((Below.refl _ _).alloc (Nat.le_refl _) _)).trans (KeepE.own (OwnF.al HO.out _) hg9)
                have hb9 : Below base w5 w9 := ((Below.refl _ _).alloc HBWX.out _).trans hbl9
                have HK9 := Lib.hid (HKR.out.trans (HKX.out.trans hk9))
                have HB9 := Lib.hid (HBR.out.trans (HBX5.out.trans hb9))
                have HO9 : Hid (OwnF tEdt w9 base 53 v9 (ys ++ [(⟨3, (k : Int), 0, 0, ⟨#[]⟩, L, zNd⟩ : Edt)]).length (ys ++ [(⟨3, (k : Int), 0, 0, ⟨#[]⟩, L, zNd⟩ : Edt)])) := by
                  rw [List.length_append]
                  exact hown9
                have HY2 : Hid (ys ++ [(⟨3, (k : Int), 0, 0, ⟨#[]⟩, L, zNd⟩ : Edt)] = xs ++ cutL (fun i k => cutK l a b (cutF l a b f) m i k) 0 (ks.take (j + 1))) := by
                  show _ = _
                  rw [cutL_take HZ.out, ← List.append_assoc, ← show ys = _ from HY.out, Nat.zero_add, show cutK l a b (cutF l a b f) m j k = [(⟨3, (k : Int), 0, 0, ⟨#[]⟩, L, zNd⟩ : Edt)] from HC2.out]
                clear hk9 hb9 hown9 hg9 hbl9
                go_wp2_with fail
                go_roundw
                case rel => exact ⟨j + 1, _, by omega, by go_num, HB9.out, HK9.out, HO9.out, HY2⟩
                case measure => simp [intOf]; omega

            · have hbb : (touB l a b k && txtK l k) = false := by
                cases h5 : (touB l a b k && txtK l k) with
                | false => rfl
                | true => rw [Bool.and_eq_true] at h5; exact absurd h5 h1
              rw [hbb]
              by_cases h2 : touB l a b k = true
              · have HCK := Lib.hid (show cutK l a b (cutF l a b f) m j k = cutF l a b f k from (if_neg h1).trans (if_pos h2))
                rw [h2]
                have hyl2 := HYL.out
                rw [HCK.out] at hyl2
                have HC := Lib.hid (IH.out k ys _ wx base HTK.out HUK.out HOX.out (HLR.out.below (HBX.out.mono HBW.out) (Nat.le_refl _)) HBWX.out hyl2)
                have z0 := cell_blk (i := 0) HUX.out.r_ rfl
                have z1 := cell_blk (i := 1) HUX.out.r_ rfl
                have s0 := cell_blk (i := 0) HUX.out.s_ rfl
                have s1 := cell_blk (i := 1) HUX.out.s_ rfl
                have s2 := cell_blk (i := 2) HUX.out.s_ rfl
                have s3 := cell_blk (i := 3) HUX.out.s_ rfl
                have HY2 : Hid (ys ++ cutF l a b f k = xs ++ cutL (fun i k => cutK l a b (cutF l a b f) m i k) 0 (ks.take (j + 1))) := by
                  show _ = _
                  rw [cutL_take HZ.out, ← List.append_assoc, ← show ys = _ from HY.out, Nat.zero_add, HCK.out]
                clear h1 h2 hbb hyl2 k0
                go_wp2_with (go_at_call 69; refine HC.out.mono ?_; rintro e' w5 ⟨v5, rfl, hown5, hb5, hk5⟩)
                go_roundw
                case rel => exact ⟨j + 1, _, by omega, by go_num, HBR.out.trans ((HBX.out.mono HBW.out).trans hb5), HKR.out.trans ((KeepE.below HBX.out).trans hk5), hown5, HY2⟩
                case measure => simp [intOf]; omega
              · have h2f : touB l a b k = false := by simpa using h2
                have HCK := Lib.hid (show cutK l a b (cutF l a b f) m j k = if inR l a b m j = true then [eRem k] else [] from (if_neg h1).trans (if_neg h2))
                rw [h2f]
                have hjb : (j : Int) ≤ 1152921504606846976 := by omega
                have hokj : PtOk l m (j : Int) := ⟨HTM.out.lt, by omega, hjb, HT.out.top_tr HTM.out⟩
                have hokj1 : PtOk l m ((j : Int) + 1) := ⟨HTM.out.lt, by omega, by omega, HT.out.top_tr HTM.out⟩
                have hlx := HLR.out.below (HBX.out.mono HBW.out) (Nat.le_refl _)
                have HOA := Lib.hid (ptOrder_any _ n c l q ma m a.at_ (j : Int) wx base hlx HBWX.out HT.out (HA.out.ok hlx HT.out) hokj)
                have HOB := Lib.hid (fun W (hW : Below wx.heap.size wx W) => ptOrder_any _ n c l q m mb ((j : Int) + 1) b.at_ W base (hlx.below (hW.mono HBWX.out) (Nat.le_refl _)) (Nat.le_trans HBWX.out hW.size) HT.out hokj1 (HPB.out.ok hlx HT.out))
                rw [show (⟨(ma : Int), a.at_⟩ : Pt) = a by rw [← HA.out.node], ← HA.out.node] at HOA
                rw [show (⟨(mb : Int), b.at_⟩ : Pt) = b by rw [← HPB.out.node], ← HPB.out.node] at HOB
                have HIR := Lib.hid (show inR l a b m j = (decide (orderR l a ⟨m, j⟩ ≤ 0) && decide (orderR l ⟨m, (j : Int) + 1⟩ b ≤ 0)) from rfl)
                have wz : IntKind.i64.wrap ((j : Int) + 1) = (j : Int) + 1 := IntWalk.i64_in _ (by omega)
                have z0 := cell_blk (i := 0) HUX.out.r_ rfl
                have z1 := cell_blk (i := 1) HUX.out.r_ rfl
                have s0 := cell_blk (i := 0) HUX.out.s_ rfl
                have s1 := cell_blk (i := 1) HUX.out.s_ rfl
                clear h1 h2 h2f hbb k0 hjb hokj hokj1 hlx
                go_upto_region 12 with fail
                go_cut [81] (fun v wy => v = .bool (inR l a b m j) ∧ Below wx.heap.size wx wy)
                case first =>
                  generalize inR l a b m j = ir at *
                  generalize orderR l a ⟨m, j⟩ = o1 at *
                  generalize orderR l ⟨m, (j : Int) + 1⟩ b = o2 at *
                  by_cases g1 : o1 ≤ 0
                  · rw [decide_eq_true g1, Bool.true_and] at HIR
                    go_wp2_with (first
                      | (go_at_call 60; with_reducible refine HOA.out.mono ?_; rintro e' w2 ⟨rfl, hb2⟩; have HB2 := Lib.hid hb2; have HU2 := Lib.hid (HUX.out.keep (KeepE.below hb2)); have y0 := cell_blk (i := 0) HU2.out.r_ rfl; have y1 := cell_blk (i := 1) HU2.out.r_ rfl; have s2 := cell_blk (i := 2) HU2.out.s_ rfl; have s3 := cell_blk (i := 3) HU2.out.s_ rfl)
                      | (go_at_call 60; refine (HOB.out w2 HB2.out).mono ?_; rintro e' w3 ⟨rfl, hb3⟩))
                    go_meet
                    case rel => exact ⟨by rw [HIR.out], HB2.out.trans (hb3.mono HB2.out.size)⟩
                  · rw [decide_eq_false g1, Bool.false_and] at HIR
                    go_wp2_with (go_at_call 60; refine HOA.out.mono ?_; rintro e' w2 ⟨rfl, hb2⟩)
                    go_meet
                    case rel => exact ⟨by rw [HIR.out], hb2⟩
                case rest =>
                  obtain ⟨rfl, hb5⟩ := hcut
                  obtain ⟨w5, rfl⟩ : ∃ w5 : World, w5 = wc := ⟨_, rfl⟩
                  have HB5 := Lib.hid hb5
                  have HKX := Lib.hid ((KeepE.below HBX.out).trans (KeepE.below HB5.out))
                  have HBX5 := Lib.hid ((HBX.out.trans (HB5.out.mono HBX.out.size)).mono HBW.out)
                  have HO5 : Hid (OwnF tEdt w5 base 53 (.slice A4 ys.length c4) ys.length ys) := HOX.out.below HB5.out (Nat.le_refl _)
                  have HBWX : Hid (base ≤ w5.heap.size) := Nat.le_trans HBWX.out HB5.out.size
                  clear hb5 z0 z1 s0 s1
                  by_cases h3 : inR l a b m j = true
                  · have HC2 := Lib.hid (HCK.out.trans (if_pos h3))
                    rw [h3]
                    have hylen : ys.length ≤ 200 := by have := HYL.out; omega
                    have hkw : (Lit.int .i64 (k : Int)).wf = true := WalkArith.wf_i64 (by omega)
                    clear h3
                    have HO := Lib.hid (HO5.out)
                    go_upto_region 14 with (at_builtin; refine wpList_ap1 _ rfl (.tmp 101) (.tmp 104) 54 rfl elemEdt (v := .slice A4 ys.length c4) (D := fun _ => False) rfl (OwnF.al HO.out _) (fun _ h => h.elim) (y := (⟨6, (k : Int), 0, 0, ⟨#[]⟩, ⟨#[]⟩, zNd⟩ : Edt)) (cs := (edtCells (⟨6, (k : Int), 0, 0, ⟨#[]⟩, ⟨#[]⟩, zNd⟩ : Edt) none 0 0 none 0 0).toList) rfl (e_rep _ _ 6 k ⟨#[]⟩ (by decide) hkw (by decide)) (cell_new _ _ _) (by omega) (by omega) (by rw [World.size_alloc]; exact Nat.le_trans HBWX.out (Nat.le_succ _)) ?_; intro v9 w9 hown9 hg9 hbl9 _)
                    have hk9 : KeepE w5 w9 := (KeepE.below ((Below.refl _ _).alloc (Nat.le_refl _) _)).trans (KeepE.own (OwnF.al HO.out _) hg9)
                    have hb9 : Below base w5 w9 := ((Below.refl _ _).alloc HBWX.out _).trans hbl9
                    have HK9 := Lib.hid (HKR.out.trans (HKX.out.trans hk9))
                    have HB9 := Lib.hid (HBR.out.trans (HBX5.out.trans hb9))
                    have HO9 : Hid (OwnF tEdt w9 base 53 v9 (ys ++ [(⟨6, (k : Int), 0, 0, ⟨#[]⟩, ⟨#[]⟩, zNd⟩ : Edt)]).length (ys ++ [(⟨6, (k : Int), 0, 0, ⟨#[]⟩, ⟨#[]⟩, zNd⟩ : Edt)])) := by
                      rw [List.length_append]
                      exact hown9
                    have HY2 : Hid (ys ++ [(⟨6, (k : Int), 0, 0, ⟨#[]⟩, ⟨#[]⟩, zNd⟩ : Edt)] = xs ++ cutL (fun i k => cutK l a b (cutF l a b f) m i k) 0 (ks.take (j + 1))) := by
                      show _ = _
                      rw [cutL_take HZ.out, ← List.append_assoc, ← show ys = _ from HY.out, Nat.zero_add, show cutK l a b (cutF l a b f) m j k = [(⟨6, (k : Int), 0, 0, ⟨#[]⟩, ⟨#[]⟩, zNd⟩ : Edt)] from HC2.out]
                    clear hk9 hb9 hown9 hg9 hbl9
                    go_wp2_with fail
                    go_roundw
                    case rel => exact ⟨j + 1, _, by omega, by go_num, HB9.out, HK9.out, HO9.out, HY2⟩
                    case measure => simp [intOf]; omega

                  · have HC2 := Lib.hid (HCK.out.trans (if_neg h3))
                    have h3f : inR l a b m j = false := by simpa using h3
                    rw [h3f]
                    clear h3 h3f
                    have HKN9 := Lib.hid (HKR.out.trans HKX.out)
                    have HBN9 := Lib.hid (HBR.out.trans HBX5.out)
                    have HON9 := Lib.hid (HO5.out)
                    have HY2 : Hid (ys = xs ++ cutL (fun i k => cutK l a b (cutF l a b f) m i k) 0 (ks.take (j + 1))) := by
                      show _ = _
                      rw [cutL_take HZ.out, ← List.append_assoc, ← show ys = _ from HY.out, Nat.zero_add, HC2.out, List.append_nil]
                    go_wp2_with fail
                    go_roundw
                    case rel => exact ⟨j + 1, _, by omega, by go_num, HBN9.out, HKN9.out, HON9.out, HY2⟩
                    case measure => simp [intOf]; omega

      · have HYE : Hid (ys = xs ++ cutF l a b (f + 1) m) := by
          show _ = _
          have h1 : cutF l a b (f + 1) m = cutL (fun i k => cutK l a b (cutF l a b f) m i k) 0 ks := by rw [cutF, hks]
          rw [h1, show ys = _ from HY.out, List.take_of_length_le (by have := HKN.out; omega)]
        clear hbr hkr hown
        go_wp2_with fail
        go_ret
        refine ⟨_, rfl, ?_, HB0.out.trans HBR.out, HK0.out.trans HKR.out⟩
        rw [← HYE.out]
        exact HOW.out
/-- What Cut hands back. -/
def CtPost (w : World) (l : List Nd) (a b : Pt) (e : Ending) (w' : World) : Prop :=
  Below w.heap.size w w' ∧ ((cutS l a b).2 ≠ 0 ∧ e = .returned (.tuple #[.slice none 0 0, .int .i64 (cutS l a b).2]) ∨
    (cutS l a b).2 = 0 ∧ ∃ v, e = .returned (.tuple #[v, .int .i64 0]) ∧ OwnF tEdt w' w.heap.size 53 v (cutS l a b).1.length (cutS l a b).1)
theorem cut_few {l : List Nd} (G : Good l) {a b : Pt} (f : Nat) {m : Nat} (tm : Tr l m) : (cutF l a b f m).length ≤ 200 := by
  have h1 := G.cut_nodup (a := a) (b := b) f tm
  have h2 := cut_sub (a := a) (b := b) G f m tm
  have h3 : ((cutF l a b f m).map Edt.at_).length ≤ l.length := by
    refine few_nats l.length _ (fun i j x hij hi hj => ?_) (fun x hx => ?_)
    · obtain ⟨hi1, hi2⟩ := List.getElem?_eq_some_iff.1 hi
      obtain ⟨hj1, hj2⟩ := List.getElem?_eq_some_iff.1 hj
      exact List.pairwise_iff_getElem.1 h1 i j hi1 hj1 hij (hi2.trans hj2.symm)
    · obtain ⟨n, e, tn, _⟩ := (G.preF_sorted (f + 1) m tm).2 x (h2.subset hx)
      exact ⟨n, e, tn.lt⟩
  rw [List.length_map] at h3
  have := G.small
  omega
set_option maxRecDepth 100000 in
set_option maxHeartbeats 8000000 in
theorem cutRg_any (A : Option Addr) (n c : Nat) (l : List Nd) (q : Bool) (a b : Pt) (w : World) (B : Nat) (hl : Sl tNd w (lt B) A n c l) (hB : B ≤ w.heap.size) (ha : wfP a) (hb : wfP b) :
    Calls Tryd.prog 37 #[.agg #[.slice A n c, .bool q], .agg #[.int .i64 a.node, .int .i64 a.at_, .int .i64 b.node, .int .i64 b.at_]] w (CtPost w l a b) := by
  obtain ⟨wa, hwa⟩ : ∃ wa, wa = w.alloc (.cells #[.slice A n c, .bool q] 24) := ⟨_, rfl⟩
  obtain ⟨w0, hw0⟩ : ∃ w0, w0 = wa.alloc (.cells #[.int .i64 a.node, .int .i64 a.at_, .int .i64 b.node, .int .i64 b.at_] 63) := ⟨_, rfl⟩
  have za : wa.heap.size = w.heap.size + 1 := by rw [hwa]; exact World.size_alloc w _
  have hb0 : Below w.heap.size w w0 := by rw [hw0, hwa]; exact ((Below.refl _ _).alloc (Nat.le_refl _) _).alloc (by simp) _
  have hx1 : w0.heap[w.heap.size]? = some (.cells #[.slice A n c, .bool q] 24 (0, 0)) := by rw [hw0, Lib.alloc_old _ _ _ (by omega), hwa]; exact heap_alloc_new w _
  have hx2 : w0.heap[w.heap.size + 1]? = some (.cells #[.int .i64 a.node, .int .i64 a.at_, .int .i64 b.node, .int .i64 b.at_] 63 (0, 0)) := by rw [hw0, ← za]; exact heap_alloc_new wa _
  have HSP := Lib.hid (span_any A n c l q a b w0 B (hl.below hb0 hB) (Nat.le_trans hB hb0.size) ha.1 ha.2 hb.1 hb.2)
  have HB0 := Lib.hid hb0
  have HX1 := Lib.hid hx1
  have HX2 := Lib.hid hx2
  have HL := Lib.hid hl
  have HBW : Hid (B ≤ w.heap.size) := hB
  have d0 := cell_blk (i := 0) hx1 rfl
  have d1 := cell_blk (i := 1) hx1 rfl
  have s0 := cell_blk (i := 0) hx2 rfl
  have s1 := cell_blk (i := 1) hx2 rfl
  have s2 := cell_blk (i := 2) hx2 rfl
  have s3 := cell_blk (i := 3) hx2 rfl
  have HWA := Lib.hid ha
  have HWB := Lib.hid hb
  clear za hb0 hx1 hx2 hl hB ha hb
  go_enter Tryd.func37, Tryd.ntmps37
  go_upto_region 1 with fail
  rw [← hwa, ← hw0]
  clear hwa hw0
  go_upto_region 2 with (go_at_call 61; refine HSP.out.mono ?_; rintro e' w1 ⟨rfl, hbs⟩)
  obtain ⟨w2, hw2⟩ : ∃ w2, w2 = w1.alloc (.cells #[.slice A n c, .bool q] 106) := ⟨_, rfl⟩
  rw [← hw2]
  have hb02 : Below w0.heap.size w0 w2 := hbs.trans (by rw [hw2]; exact (Below.refl _ _).alloc hbs.size _)
  have H2 : Hid (TB w A n c q a b w1.heap.size w2) := ⟨HB0.out.trans (hb02.mono HB0.out.size), (hb02.block _ (Array.getElem?_eq_some_iff.1 HX1.out).1).trans HX1.out, (hb02.block _ (Array.getElem?_eq_some_iff.1 HX2.out).1).trans HX2.out, by rw [hw2]; exact heap_alloc_new w1 _⟩
  clear hw2 hbs hb02 d0 d1 s0 s1 s2 s3 HSP HB0 HX1 HX2
  by_cases hsp : spanS l a b = 0
  · obtain ⟨hck, hpa, hpb, hle⟩ := spanS_zero.1 hsp
    have G := good_of hck
    have T := tree_of hck
    obtain ⟨ma, hma⟩ := ptT_of T hpa
    obtain ⟨mb, hmb⟩ := ptT_of T hpb
    have hl2 := HL.out.below H2.out.below HBW.out
    have hpos := G.pos
    have hn0 : 0 < n := by have := HL.out.hn; omega
    obtain ⟨bb, o, rfl, _⟩ := doc_at hl2 hn0
    have hup : upN l ((0 : Nat) : Int) + 41 = 41 := by
      obtain ⟨x, hx⟩ := get_some T.pos
      have hr := T.root
      rw [show (0 : Int) = ((0 : Nat) : Int) from rfl, parD_at hx] at hr
      have h1 : upN l ((0 : Nat) : Int) = 0 := by
        unfold upN
        exact upF_stop hx (by omega)
      omega
    have hfew : (cutF l a b 41 0).length ≤ 200 := cut_few G 41 (Tr.root G.pos)
    have HC := Lib.hid (cut_any l G bb o n c q a b ma mb hma hmb hle HWA.out HWB.out 41 0 [] (.slice none 0 0) w2 w.heap.size (Tr.root G.pos) hup (OwnF.nil _ _ _) (hl2.up HBW.out) H2.out.below.size (by show 0 + (cutF l a b 41 0).length ≤ 200; omega))
    have HCS := Lib.hid (show cutS l a b = if 40 < (cutF l a b 41 0).length then ([], 2) else (cutF l a b 41 0, 0) from if_neg (by simpa using hsp))
    rw [List.nil_append] at HC
    rw [hsp]
    have r0 := cell_blk (i := 0) H2.out.r_ rfl
    have r1 := cell_blk (i := 1) H2.out.r_ rfl
    have s0 := cell_blk (i := 0) H2.out.s_ rfl
    have s1 := cell_blk (i := 1) H2.out.s_ rfl
    have s2 := cell_blk (i := 2) H2.out.s_ rfl
    have s3 := cell_blk (i := 3) H2.out.s_ rfl
    clear hsp hck hpa hpb hle G T hma hmb hl2 hpos hup
    rw [show ((0 : Nat) : Int) = 0 from rfl] at HC
    generalize cutF l a b 41 0 = es at *
    go_upto_region 5 with (go_at_call 69; refine HC.out.mono ?_; rintro e' w3 ⟨v3, rfl, hown, hb3, _⟩; obtain ⟨A3, c3, rfl⟩ := Own.form hown)
    have HO := Lib.hid hown
    have HB3 := Lib.hid (H2.out.below.trans hb3)
    clear hown hb3 r0 r1 s0 s1 s2 s3 HC
    by_cases h40 : 40 < es.length
    · have HR := Lib.hid (HCS.out.trans (if_pos h40))
      go_wp2_with fail
      refine bodyPost_ret (v := .tuple #[.slice none 0 0, .int .i64 2]) (by simp [results, Tryd.results37, go_sem]) rfl ⟨HB3.out, Or.inl ⟨by rw [HR.out]; decide, by rw [HR.out]⟩⟩
    · have HR := Lib.hid (HCS.out.trans (if_neg h40))
      go_wp2_with fail
      refine bodyPost_ret (v := .tuple #[.slice A3 es.length c3, .int .i64 0]) (by simp [results, Tryd.results37, go_sem]) rfl ⟨HB3.out, Or.inr ⟨by rw [HR.out], _, rfl, by rw [HR.out]; exact HO.out⟩⟩
  · have HR := Lib.hid (show cutS l a b = ([], spanS l a b) from if_pos hsp)
    have j1 : (spanS l a b != 0) = true := by simpa using hsp
    have HNZ := Lib.hid hsp
    generalize spanS l a b = er at *
    clear hsp
    go_wp2_with fail
    refine bodyPost_ret (v := .tuple #[.slice none 0 0, .int .i64 er]) (by simp [results, Tryd.results37, go_sem]) rfl ⟨H2.out.below, Or.inl ⟨by rw [HR.out]; exact HNZ.out, by rw [HR.out]⟩⟩
end Go.Proofs.YtcnogokemilhnaaDoor
