/-
The walks of ranked, anew and Of: the index of a document.
-/
import Derived.Test.YtomleengbnfikaaGreatDoorIdxTurn
import Derived.Test.YtomleengbnfikaaGreatDoorDomAsks
namespace Go.Proofs.YtomleengbnfikaaGreatDoor
open Go.RowKit Go.Cl
open Go.Maps (Keyed IsMap int_keyed keyOf_int_mk)
attribute [local go_sem ↓] Go.wp_at_zero Go.wp_at_succ

/-! ### ranks -/
/-- Where a number stands last among the first ones. -/
def rkF (xs : List Int) : Nat → Int → Int
  | 0, _ => 0
  | k + 1, n => if xs[k]? = some n then (k : Int) else rkF xs k n
def RkN (w : World) (M k : Nat) (rk : Int → Int) : Prop := ∃ X, w.ownsMap Tryz.prog 3 mpE M k X ∧ ∀ n : Int, X.atKey (.int .i64 n) (.lit (.int .i64 0)) = .lit (.int .i64 (rk n))
set_option maxRecDepth 100000 in
theorem ranked_any (A : Option Addr) (n c : Nat) (xs : List Int) (w : World) (B : Nat) (hl : Sl (tInt .i64) w (lt B) A n c xs) (hB : B ≤ w.heap.size) (hn : n ≤ 100000) :
    Calls Tryz.prog 12 #[.slice A n c] w fun e w' => ∃ M, e = .returned (.map (some M)) ∧ RkAt w' M (rkF xs xs.length) ∧ w.heap.size ≤ M ∧ Below w.heap.size w w' := by
  have hmm := @run_makeMap Tryz.prog
  have HL := Lib.hid hl.hn
  have HS := Lib.hid hl
  have HBW : Hid (B ≤ w.heap.size) := hB
  have hm0 : (w.alloc (.map #[] 0)).ownsMap Tryz.prog 3 mpE w.heap.size 0 (.map []) := World.ownsMap_made _ _ _ _
  have HM0 := Lib.hid (show RkN (w.alloc (.map #[] 0)) w.heap.size 0 (rkF xs 0) from ⟨_, hm0, fun _ => rfl⟩)
  clear hm0 hl hB
  go_enter Tryz.func12, Tryz.ntmps12
  go_wp2_with fail
  go_loopw [9] (fun s wr => ∃ k : Nat, k ≤ n ∧ s = .int .i64 (k : Int) ∧ Hid (RkN wr w.heap.size k (rkF xs k)) ∧ Below w.heap.size w wr) (fun s _ => n - (intOf s).toNat)
  case atStart => exact ⟨0, Nat.zero_le _, rfl, HM0, (Below.refl _ _).alloc (Nat.le_refl _) _⟩
  case round =>
    obtain ⟨k, hk, rfl, HM, hb⟩ := hrel
    by_cases hlt : k < n
    · obtain ⟨x, hx⟩ : ∃ x, xs[k]? = some x := get_some (by have := HL.out; omega)
      obtain ⟨b, o, rfl, _, c1, hwf⟩ := (HS.out.below hb HBW.out).int hx
      obtain ⟨X, ho, hX⟩ := HM.out
      have HO := Lib.hid ho
      have HX := Lib.hid hX
      have HXK := Lib.hid hx
      have hkey : keyOf Tryz.prog 3 (.int .i64 x) = some (.int .i64 x) := keyOf_int_mk Tryz.underlying3 hwf
      have HKEY := Lib.hid hkey
      have HWK : Hid (Lit.wf (.int .i64 (k : Int)) = true) := WalkArith.wf_i64 (by omega)
      clear ho hX hx hwf HM hkey
      go_wp2_with (at_mapUpdate; refine wpList_mapUpdate_own _ rfl _ _ _ 55 rfl 3 3 lawI Tryz.underlying55 mpE w.heap.size k X rfl HO.out (by unfold maxLen; omega) _ _ _ rfl rfl HKEY.out _ [] (plainElem_int Tryz.underlying3 HWK.out) ?_; intro w6 hown6 hgrow6)
      go_roundw
      case rel =>
        refine ⟨k + 1, by omega, by go_num, Lib.hid ⟨_, hown6, fun m => ?_⟩, hb.grown hgrow6 hb.size (fun j hj => by cases hj; exact Nat.le_refl _)⟩
        unfold rkF
        rw [show xs[k]? = some x from HXK.out]
        by_cases e : x = m
        · subst e
          rw [if_pos rfl]
          exact Go.Maps.atKey_put_same HO.out.isMap (by simp [WideAt.IsKeyLit]) _ _
        · rw [if_neg (fun e2 => e (Option.some.inj e2)), Go.Maps.atKey_put_other (by simp only [ne_eq, Lit.int.injEq, true_and]; exact fun e2 => e e2.symm)]
          exact HX.out m
      case measure => simp [intOf]; omega
    · obtain rfl : n = k := by omega
      go_wp2_with fail
      go_ret
      obtain ⟨X, ho, hX⟩ := HM.out
      exact ⟨_, rfl, ⟨_, X, ho, by rw [← show n = xs.length from HL.out]; exact hX⟩, Nat.le_refl _, hb⟩

/-! ### anew -/
def noNd : Nd := ⟨1, ⟨#[]⟩, [], ⟨#[]⟩, -1, []⟩
def ndG (l : List Nd) (n : Int) : Nd := l[n.toNat]?.getD noNd
/-- The lists behind some nodes. -/
def anTo (rk : Int → Int) (l : List Nd) (xs : List Int) : Nat → Nat → List Ref
  | 0 => fun _ => []
  | k + 1 => match xs[k]? with
    | some n => turnL rk (anTo rk l xs k) (wordsP (ndG l n)) n
    | none => anTo rk l xs k
theorem an_next {rk : Int → Int} {l : List Nd} {xs : List Int} {k : Nat} {n : Int} (h : xs[k]? = some n) : anTo rk l xs (k + 1) = turnL rk (anTo rk l xs k) (wordsP (ndG l n)) n := by rw [anTo, h]
/-- How many words a node has at most, in each list. -/
theorem words_few {x : Nd} (h : ∀ a ∈ x.attrs, a.2.size ≤ 400) (i : Nat) : ((wordsP x)[i]?.getD []).length ≤ 402 := by
  have one : ∀ s, (oneW s).length ≤ 1 := fun s => by unfold oneW; split <;> simp
  unfold wordsP
  split
  · rcases i with _ | _ | _ | _ | i
    · exact Nat.le_trans (one _) (by decide)
    · exact Nat.le_trans (words_len _) (by have := ofA_small h classB; omega)
    · exact (by decide : (1 : Nat) ≤ 402)
    · exact Nat.le_trans (one _) (by decide)
    · exact Nat.zero_le _
  · rcases i with _ | _ | _ | _ | i <;> exact Nat.zero_le _
theorem an_few {rk : Int → Int} {l : List Nd} {xs : List Int} (h : ∀ x ∈ l, ∀ a ∈ x.attrs, a.2.size ≤ 400) : ∀ (k i : Nat), allN (anTo rk l xs k i) ≤ 402 * k := by
  intro k
  induction k with
  | zero => intro i; exact Nat.le_refl _
  | succ k ih =>
    intro i
    have := ih i
    cases hk : xs[k]? with
    | none =>
      rw [show anTo rk l xs (k + 1) = anTo rk l xs k from by rw [anTo, hk]]
      omega
    | some n =>
      rw [an_next hk]
      unfold turnL
      rw [step_all]
      have hw : ((wordsP (ndG l n))[i]?.getD []).length ≤ 402 := by
        refine words_few (fun a ha => ?_) i
        unfold ndG at ha
        cases hn : l[n.toNat]? with
        | none => rw [hn] at ha; simp [noNd] at ha
        | some x => rw [hn] at ha; exact h x (List.mem_of_getElem? hn) a ha
      omega
theorem KpAt.tou {S : Nat → Prop} {w w' : World} {base K M : Nat} {rk : Int → Int} {L : Nat → List Ref} {V : Nat → Value} {P : Nat → List Value} (h : KpAt w base K M rk L V P) (ht : Tou S w w') (hs : ∀ b, base ≤ b → ¬ S b) (hM : ¬ S M) : KpAt w' base K M rk L V P :=
  ⟨(ht.block K h.lt (hs K h.low)).trans h.box, h.low, fun i hi => (h.lists i hi).tou ht fun b hb => hs b ((h.lists i hi).mine hb).1, h.ok, h.ne, h.apart, h.rank.block (ht.block M h.rank.lt hM)⟩
/-- What anew leaves: four lists. -/
def AnPost (w : World) (L : Nat → List Ref) (e : Ending) (w' : World) : Prop :=
  Below w.heap.size w w' ∧ ∃ base K M rk V P, w.heap.size ≤ base ∧ KpAt w' base K M rk L V P ∧ e = .returned (.agg #[V 0, V 1, V 2, V 3])
set_option maxRecDepth 100000 in
set_option maxHeartbeats 8000000 in
theorem anew_any (A : Option Addr) (n c : Nat) (l : List Nd) (q : Bool) (A2 : Option Addr) (n2 c2 : Nat) (xs : List Int) (w : World) (B : Nat) (hl : Sl tNd w (lt B) A n c l) (hx : Sl (tInt .i64) w (lt B) A2 n2 c2 xs) (hB : B ≤ w.heap.size) (hn2 : n2 ≤ 200) (hin : ∀ x ∈ xs, ∃ k : Nat, x = (k : Int) ∧ k < l.length) (hs : ∀ x ∈ l, ∀ a ∈ x.attrs, a.2.size ≤ 400) (h0 : 0 < n) :
    Calls Tryz.prog 10 #[.agg #[.slice A n c, .bool q], .slice A2 n2 c2] w (AnPost w (anTo (rkF xs xs.length) l xs xs.length)) := by
  obtain ⟨wa, hwa⟩ : ∃ wa, wa = w.alloc (.cells #[.slice A n c, .bool q] 24) := ⟨_, rfl⟩
  obtain ⟨w0, hw0⟩ : ∃ w0, w0 = wa.alloc (.cells #[.slice none 0 0, .slice none 0 0, .slice none 0 0, .slice none 0 0] 29) := ⟨_, rfl⟩
  have za : wa.heap.size = w.heap.size + 1 := by rw [hwa]; exact World.size_alloc w _
  have z0 : w0.heap.size = w.heap.size + 2 := by rw [hw0, World.size_alloc, za]
  have hb0 : Below w.heap.size w w0 := by rw [hw0, hwa]; exact ((Below.refl _ _).alloc (Nat.le_refl _) _).alloc (by simp) _
  have hx1 : w0.heap[w.heap.size]? = some (.cells #[.slice A n c, .bool q] 24 (0, 0)) := by rw [hw0, Lib.alloc_old _ _ _ (by omega), hwa]; exact heap_alloc_new w _
  have hx2 : w0.heap[w.heap.size + 1]? = some (.cells #[.slice none 0 0, .slice none 0 0, .slice none 0 0, .slice none 0 0] 29 (0, 0)) := by rw [hw0, ← za]; exact heap_alloc_new wa _
  have HB0 := Lib.hid hb0
  have HX1 := Lib.hid hx1
  have HX2 := Lib.hid hx2
  have HZ0 := Lib.hid z0
  obtain ⟨b, o, rfl, hd⟩ := doc_at (hl.below hb0 hB) h0
  have HD := Lib.hid hd
  have HXS := Lib.hid (hx.below hb0 hB)
  have HN2 := Lib.hid hx.hn
  have HIN := Lib.hid hin
  have HS := Lib.hid hs
  have HBW : Hid (B ≤ w0.heap.size) := Nat.le_trans hB hb0.size
  have HRK := Lib.hid (ranked_any A2 n2 c2 xs w0 B HXS.out HBW.out (by omega))
  have HFEW := Lib.hid (fun k i => an_few (rk := rkF xs xs.length) (xs := xs) hs k i)
  clear za z0 hb0 hx1 hx2 hl hx hin hs hB hd
  generalize rkF xs xs.length = rk at *
  go_enter Tryz.func10, Tryz.ntmps10
  go_upto_region 1 with fail
  rw [← hwa, ← hw0]
  clear hwa hw0
  go_upto_region 2 with (go_at_call 12; refine HRK.out.mono ?_; rintro e w1 ⟨M, rfl, hR, hM, hb1⟩)
  obtain ⟨w2, hw2⟩ : ∃ w2, w2 = w1.alloc (.cells #[.slice none 0 0, .slice none 0 0, .slice none 0 0, .slice none 0 0, .map (some M)] 58) := ⟨_, rfl⟩
  have hb2 : Below w0.heap.size w0 w2 := by rw [hw2]; exact hb1.alloc hb1.size _
  have HK2 : Hid (KpAt w2 w0.heap.size w1.heap.size M rk (anTo rk l xs 0) (fun _ => .slice none 0 0) (fun _ => [])) := by
    refine ⟨by rw [hw2]; exact heap_alloc_new w1 _, hb1.size, fun i _ => Rf.nil _ _, fun i _ => ROk.nil _, fun i _ r hr => by simp [anTo] at hr, fun i j _ _ _ b hb => ?_, hR.block (by rw [hw2]; exact Lib.alloc_old _ _ _ hR.lt)⟩
    rcases hb with e | ⟨p, hp, _⟩
    · cases e
    · simp at hp
  have HM := Lib.hid hM
  obtain ⟨K, hK⟩ : ∃ K, w1.heap.size = K := ⟨_, rfl⟩
  rw [hK] at HK2 ⊢
  rw [show (w1.alloc (.cells #[.slice none 0 0, .slice none 0 0, .slice none 0 0, .slice none 0 0, .map (some M)] 58)) = w2 from hw2.symm]
  have HB2 := Lib.hid hb2
  clear hw2 hK hb1 hR hM HRK hb2
  go_wp2_with fail
  go_loopw [14] (fun s wr => ∃ (k : Nat) (V : Nat → Value) (P : Nat → List Value), k ≤ n2 ∧ s = .int .i64 (k : Int) ∧ Hid (KpAt wr w0.heap.size K M rk (anTo rk l xs k) V P) ∧ Below w0.heap.size w0 wr) (fun s _ => n2 - (intOf s).toNat)
  case atStart => exact ⟨0, _, _, Nat.zero_le _, rfl, HK2, HB2.out⟩
  case round =>
    obtain ⟨k, V, P, hk, rfl, HK, hb⟩ := hrel
    have hbx := (hb.block w.heap.size (by have := HZ0.out; omega)).trans HX1.out
    have y0 := cell_blk (i := 0) hbx rfl
    have y1 := cell_blk (i := 1) hbx rfl
    have HBR := Lib.hid hb
    by_cases hlt : k < n2
    · obtain ⟨z, hz⟩ : ∃ z, xs[k]? = some z := get_some (by have := HN2.out; omega)
      obtain ⟨b2, o2, rfl, _, c1, hwf⟩ := (HXS.out.below hb HBW.out).int hz
      obtain ⟨m, rfl, hm⟩ := HIN.out z (List.mem_of_getElem? hz)
      obtain ⟨x, hx⟩ := get_some hm
      obtain ⟨Aa, na, ca, Ak, nk, ck, hnat, d0, d1, d2, d3, d4, d5⟩ := (HD.out.below hb HBW.out).at_ m x hx
      have hnd : ndG l (m : Int) = x := by unfold ndG; rw [Int.toNat_natCast, hx]; rfl
      have hxs := HS.out x (List.mem_of_getElem? hx)
      have HT := Lib.hid (turn_any x Aa na ca Ak nk ck (m : Int) K M w0.heap.size rk (anTo rk l xs k) V P wr B hnat (Nat.le_trans HBW.out hb.size) (fun a ha => Nat.le_trans (hxs a ha) (by decide)) HK.out hwf (fun i _ => by have h1 := HFEW.out k i; have h2 := words_few hxs i; omega))
      have HAN := Lib.hid (show anTo rk l xs (k + 1) = turnL rk (anTo rk l xs k) (wordsP x) (m : Int) from by rw [an_next hz, hnd])
      have i1 : (0 : Int) ≤ (m : Int) := by omega
      have i2 : (m : Int) < (n : Int) := by have := HD.out.hn; omega
      clear hz hx hm hnat hnd hxs hwf hbx hb
      go_wp2_with (go_at_call 17; refine HT.out.mono ?_; rintro e w3 ⟨rfl, V3, P3, hk3⟩)
      go_roundw
      case rel =>
        refine ⟨k + 1, V3, P3, by omega, by go_num, ?_, HBR.out.trans (hk3.tou.below (fun b hb => (HK.out.mine hb).1) HBR.out.size)⟩
        show KpAt _ _ _ _ _ _ _ _
        rw [HAN.out]
        exact hk3.at_
      case measure => simp [intOf]; omega
    · obtain rfl : n2 = k := by omega
      have hbr := (hb.block (w.heap.size + 1) (by have := HZ0.out; omega)).trans HX2.out
      obtain ⟨A0, m0, h0'⟩ := Own.form (HK.out.lists 0 (by decide)).row
      obtain ⟨A1, m1, h1'⟩ := Own.form (HK.out.lists 1 (by decide)).row
      obtain ⟨A2', m2, h2'⟩ := Own.form (HK.out.lists 2 (by decide)).row
      obtain ⟨A3, m3, h3'⟩ := Own.form (HK.out.lists 3 (by decide)).row
      have hkb := HK.out.box
      unfold kpCells at hkb
      rw [h0', h1', h2', h3'] at hkb
      have k0 := cell_blk (i := 0) hkb rfl
      have k1 := cell_blk (i := 1) hkb rfl
      have k2 := cell_blk (i := 2) hkb rfl
      have k3 := cell_blk (i := 3) hkb rfl
      have r0 := cell_blk (i := 0) hbr rfl
      have r1 := cell_blk (i := 1) hbr rfl
      have r2 := cell_blk (i := 2) hbr rfl
      have r3 := cell_blk (i := 3) hbr rfl
      have f0 := free_blk (i := 0) hbr
      have f1 := free_blk (i := 1) hbr
      have f2 := free_blk (i := 2) hbr
      have f3 := free_blk (i := 3) hbr
      have HVS := Lib.hid (show (#[V 0, V 1, V 2, V 3] : Array Value) = #[.slice A0 (anTo rk l xs n2 0).length m0, .slice A1 (anTo rk l xs n2 1).length m1, .slice A2' (anTo rk l xs n2 2).length m2, .slice A3 (anTo rk l xs n2 3).length m3] from by rw [h0', h1', h2', h3'])
      have HBR2 := Lib.hid hbr
      clear hkb hbr h0' h1' h2' h3' hbx y0 y1
      go_wp2_with fail
      obtain ⟨W, hW⟩ : ∃ W, W = (((wr.setCell ⟨w.heap.size + 1, 0, none⟩ (.slice A0 (anTo rk l xs n2 0).length m0)).setCell ⟨w.heap.size + 1, 1, none⟩ (.slice A1 (anTo rk l xs n2 1).length m1)).setCell ⟨w.heap.size + 1, 2, none⟩ (.slice A2' (anTo rk l xs n2 2).length m2)).setCell ⟨w.heap.size + 1, 3, none⟩ (.slice A3 (anTo rk l xs n2 3).length m3) := ⟨_, rfl⟩
      have hWb : W.heap[w.heap.size + 1]? = some (.cells #[.slice A0 (anTo rk l xs n2 0).length m0, .slice A1 (anTo rk l xs n2 1).length m1, .slice A2' (anTo rk l xs n2 2).length m2, .slice A3 (anTo rk l xs n2 3).length m3] 29 (0, 0)) := by rw [hW]; exact set_blk (i := 3) (set_blk (i := 2) (set_blk (i := 1) (set_blk (i := 0) HBR2.out _) _) _) _
      have hWt : Tou (fun b => b = w.heap.size + 1) wr W := by
        rw [hW]
        exact (((tou_set _ _ _ _).trans (tou_set _ _ _ _) (fun _ _ h => h)).trans (tou_set _ _ _ _) (fun _ _ h => h)).trans (tou_set _ _ _ _) (fun _ _ h => h)
      rw [← hW]
      clear hW r0 r1 r2 r3 f0 f1 f2 f3 k0 k1 k2 k3
      have e0 := cell_blk (i := 0) hWb rfl
      have e1 := cell_blk (i := 1) hWb rfl
      have e2 := cell_blk (i := 2) hWb rfl
      have e3 := cell_blk (i := 3) hWb rfl
      have hz := HZ0.out
      refine bodyPost_ret (v := .agg #[.slice A0 (anTo rk l xs n2 0).length m0, .slice A1 (anTo rk l xs n2 1).length m1, .slice A2' (anTo rk l xs n2 2).length m2, .slice A3 (anTo rk l xs n2 3).length m3]) (by simp [results, Tryz.results10, go_sem, e0, e1, e2, e3]) rfl ⟨?_, w0.heap.size, K, M, rk, V, P, HB0.out.size, ?_, by rw [HVS.out]⟩
      · exact (HB0.out.trans (HBR.out.mono HB0.out.size)).trans (hWt.below (fun b hb => by omega) (Nat.le_trans HB0.out.size HBR.out.size))
      · rw [← show n2 = xs.length from HN2.out]
        exact HK.out.tou hWt (fun b hb => by omega) (fun e => by have := HM.out; omega)

/-! ### Of -/
theorem good_vals {l : List Nd} (G : Good l) : ∀ x ∈ l, ∀ a ∈ x.attrs, a.2.size ≤ 400 := fun x hx a ha => (((nodeE_iff x).1 (G.each x hx)).2.2.1.each a ha).2
/-- What Of hands back. -/
def OfPost (w : World) (l : List Nd) (e : Ending) (w' : World) : Prop :=
  Below w.heap.size w w' ∧ ((checkD l ≠ 0 ∧ e = .returned (.tuple #[.agg #[.slice none 0 0, .slice none 0 0, .slice none 0 0, .slice none 0 0], .int .i64 (checkD l)])) ∨
    (checkD l = 0 ∧ ∃ base K M rk V P, w.heap.size ≤ base ∧ KpAt w' base K M rk (anTo (rkF (preR l 0) (preR l 0).length) l (preR l 0) (preR l 0).length) V P ∧ e = .returned (.tuple #[.agg #[V 0, V 1, V 2, V 3], .int .i64 0])))
set_option maxRecDepth 100000 in
set_option maxHeartbeats 8000000 in
theorem indexOf_any (A : Option Addr) (n c : Nat) (l : List Nd) (q : Bool) (w : World) (B : Nat) (hl : Sl tNd w (lt B) A n c l) (hB : B ≤ w.heap.size) :
    Calls Tryz.prog 5 #[.agg #[.slice A n c, .bool q]] w (OfPost w l) := by
  obtain ⟨wa, hwa⟩ : ∃ wa, wa = w.alloc (.cells #[.slice A n c, .bool q] 24) := ⟨_, rfl⟩
  obtain ⟨w0, hw0⟩ : ∃ w0, w0 = wa.alloc (.cells #[.slice none 0 0, .slice none 0 0, .slice none 0 0, .slice none 0 0] 29) := ⟨_, rfl⟩
  have za : wa.heap.size = w.heap.size + 1 := by rw [hwa]; exact World.size_alloc w _
  have z0 : w0.heap.size = w.heap.size + 2 := by rw [hw0, World.size_alloc, za]
  have hb0 : Below w.heap.size w w0 := by rw [hw0, hwa]; exact ((Below.refl _ _).alloc (Nat.le_refl _) _).alloc (by simp) _
  have hx1 : w0.heap[w.heap.size]? = some (.cells #[.slice A n c, .bool q] 24 (0, 0)) := by rw [hw0, Lib.alloc_old _ _ _ (by omega), hwa]; exact heap_alloc_new w _
  have hx2 : w0.heap[w.heap.size + 1]? = some (.cells #[.slice none 0 0, .slice none 0 0, .slice none 0 0, .slice none 0 0] 29 (0, 0)) := by rw [hw0, ← za]; exact heap_alloc_new wa _
  have HB0 := Lib.hid hb0
  have HX1 := Lib.hid hx1
  have HX2 := Lib.hid hx2
  have HZ0 := Lib.hid z0
  have HL := Lib.hid (hl.below hb0 hB)
  have HBW : Hid (B ≤ w0.heap.size) := Nat.le_trans hB hb0.size
  have HOR := Lib.hid (order_any A n c l q w0 B HL.out HBW.out)
  have y0 := cell_blk (i := 0) hx1 rfl
  have y1 := cell_blk (i := 1) hx1 rfl
  clear za z0 hb0 hx1 hx2 hl hB
  go_enter Tryz.func5, Tryz.ntmps5
  go_upto_region 1 with fail
  rw [← hwa, ← hw0]
  clear hwa hw0
  by_cases hc : checkD l = 0
  · have HC := Lib.hid hc
    have HOR2 := Lib.hid (HOR.out.mono (R' := fun e w' => Below w0.heap.size w0 w' ∧ ∃ v, e = .returned (.tuple #[v, .int .i64 0]) ∧ OwnF (tInt .i64) w' w0.heap.size 3 v (preR l 0).length (preR l 0)) fun e w' h => ⟨h.1, (h.2.resolve_left fun h => h.1 HC.out).2⟩)
    clear hc HOR
    go_upto_region 4 with (go_at_call 9; refine HOR2.out.mono ?_; rintro e w1 ⟨hb1, v, rfl, hown⟩; obtain ⟨A2, c2, rfl⟩ := Own.form hown)
    have G := good_of HC.out
    have T := tree_of HC.out
    have hfew := T.all_few
    obtain ⟨_, _, e0, hsl⟩ := OwnF.sl hown (by decide) (by show (preR l 0).length * 8 ≤ _; omega)
    injection e0 with e1 _ e2
    subst e1 e2
    have HAN := Lib.hid (anew_any A n c l q A2 (preR l 0).length c2 (preR l 0) w1 w1.heap.size ((HL.out.below hb1 HBW.out).up (Nat.le_trans HBW.out hb1.size)) hsl (Nat.le_refl _) hfew (fun x hx => by obtain ⟨k, h1, h2, _⟩ := T.all_chain.2.2 x hx; exact ⟨k, h1, h2⟩) (good_vals G) (by have := HL.out.hn; have := T.pos; omega))
    have HB1 := Lib.hid hb1
    have hbx := (hb1.block w.heap.size (by have := HZ0.out; omega)).trans HX1.out
    have y0 := cell_blk (i := 0) hbx rfl
    have y1 := cell_blk (i := 1) hbx rfl
    have HPO : Hid (∀ (base K M : Nat) (rk : Int → Int) (V : Nat → Value) (P : Nat → List Value) (w' : World), Below w.heap.size w w' → w.heap.size ≤ base → KpAt w' base K M rk (anTo (rkF (preR l 0) (preR l 0).length) l (preR l 0) (preR l 0).length) V P → OfPost w l (.returned (.tuple #[.agg #[V 0, V 1, V 2, V 3], .int .i64 0])) w') := fun base K M rk V P w' h1 h2 h3 => ⟨h1, Or.inr ⟨HC.out, base, K, M, rk, V, P, h2, h3, rfl⟩⟩
    obtain ⟨L, hLf⟩ : ∃ L, anTo (rkF (preR l 0) (preR l 0).length) l (preR l 0) (preR l 0).length = L := ⟨_, rfl⟩
    rw [hLf] at HAN HPO
    have hbr := (hb1.block (w.heap.size + 1) (by have := HZ0.out; omega)).trans HX2.out
    have HBR := Lib.hid hbr
    have HL1 : Hid (w.heap.size + 1 < w1.heap.size) := (Array.getElem?_eq_some_iff.1 hbr).1
    clear hb1 hown hsl G T hfew hbx HOR2 hLf hbr
    go_wp2_with (go_at_call 10; refine HAN.out.mono ?_; rintro e w2 ⟨hb2, base, K, M, rk, V, P, hbase, hkp, rfl⟩; obtain ⟨A0, m0, h0'⟩ := Own.form (hkp.lists 0 (by decide)).row; obtain ⟨A1, m1, h1'⟩ := Own.form (hkp.lists 1 (by decide)).row; obtain ⟨A2', m2, h2'⟩ := Own.form (hkp.lists 2 (by decide)).row; obtain ⟨A3, m3, h3'⟩ := Own.form (hkp.lists 3 (by decide)).row; have HVS := Lib.hid (show (#[V 0, V 1, V 2, V 3] : Array Value) = #[.slice A0 (L 0).length m0, .slice A1 (L 1).length m1, .slice A2' (L 2).length m2, .slice A3 (L 3).length m3] from by rw [h0', h1', h2', h3']); rw [h0', h1', h2', h3']; have hbr := (hb2.block _ HL1.out).trans HBR.out; have r0 := cell_blk (i := 0) hbr rfl; have r1 := cell_blk (i := 1) hbr rfl; have r2 := cell_blk (i := 2) hbr rfl; have r3 := cell_blk (i := 3) hbr rfl; have f0 := free_blk (i := 0) hbr; have f1 := free_blk (i := 1) hbr; have f2 := free_blk (i := 2) hbr; have f3 := free_blk (i := 3) hbr; have HBR2 := Lib.hid hbr; have HB2 := Lib.hid hb2; have HKP := Lib.hid hkp; clear h0' h1' h2' h3' hbr hb2 hkp)
    obtain ⟨W, hW⟩ : ∃ W, W = (((w2.setCell ⟨w.heap.size + 1, 0, none⟩ (.slice A0 (L 0).length m0)).setCell ⟨w.heap.size + 1, 1, none⟩ (.slice A1 (L 1).length m1)).setCell ⟨w.heap.size + 1, 2, none⟩ (.slice A2' (L 2).length m2)).setCell ⟨w.heap.size + 1, 3, none⟩ (.slice A3 (L 3).length m3) := ⟨_, rfl⟩
    have hWb : W.heap[w.heap.size + 1]? = some (.cells #[.slice A0 (L 0).length m0, .slice A1 (L 1).length m1, .slice A2' (L 2).length m2, .slice A3 (L 3).length m3] 29 (0, 0)) := by rw [hW]; exact set_blk (i := 3) (set_blk (i := 2) (set_blk (i := 1) (set_blk (i := 0) HBR2.out _) _) _) _
    have hWt : Tou (fun b => b = w.heap.size + 1) w2 W := by
      rw [hW]
      exact (((tou_set _ _ _ _).trans (tou_set _ _ _ _) (fun _ _ h => h)).trans (tou_set _ _ _ _) (fun _ _ h => h)).trans (tou_set _ _ _ _) (fun _ _ h => h)
    rw [← hW]
    clear hW r0 r1 r2 r3 f0 f1 f2 f3
    have e0 := cell_blk (i := 0) hWb rfl
    have e1 := cell_blk (i := 1) hWb rfl
    have e2 := cell_blk (i := 2) hWb rfl
    have e3 := cell_blk (i := 3) hWb rfl
    refine bodyPost_ret (v := .tuple #[.agg #[.slice A0 (L 0).length m0, .slice A1 (L 1).length m1, .slice A2' (L 2).length m2, .slice A3 (L 3).length m3], .int .i64 0]) (by simp [results, Tryz.results5, go_sem, e0, e1, e2, e3]) rfl ?_
    rw [← HVS.out]
    have h01 := HB0.out.trans (HB1.out.mono HB0.out.size)
    refine HPO.out base K M rk V P W ((h01.trans (HB2.out.mono h01.size)).trans (hWt.below (fun b hb => by omega) (h01.trans (HB2.out.mono h01.size)).size)) (Nat.le_trans h01.size hbase) (HKP.out.tou hWt (fun b hb => by have := HL1.out; omega) (fun e => ?_))
    have h5 := HKP.out.rank
    rw [e] at h5
    exact h5.box HBR2.out rfl
  · have hc1 : (checkD l != 0) = true := by simpa using hc
    have HC := Lib.hid hc
    have HOR2 := Lib.hid (HOR.out.mono (R' := fun e w' => Below w0.heap.size w0 w' ∧ e = .returned (.tuple #[.slice none 0 0, .int .i64 (checkD l)])) fun e w' h => ⟨h.1, (h.2.resolve_right fun h => HC.out h.1).2⟩)
    have HPO : Hid (∀ w', Below w.heap.size w w' → OfPost w l (.returned (.tuple #[.agg #[.slice none 0 0, .slice none 0 0, .slice none 0 0, .slice none 0 0], .int .i64 (checkD l)])) w') := fun w' h => ⟨h, Or.inl ⟨HC.out, rfl⟩⟩
    generalize checkD l = e0 at *
    clear hc HOR
    go_upto_region 3 with (go_at_call 9; refine HOR2.out.mono ?_; rintro e w1 ⟨hb1, rfl⟩)
    have hbr := (hb1.block (w.heap.size + 1) (by have := HZ0.out; omega)).trans HX2.out
    have r0 := cell_blk (i := 0) hbr rfl
    have r1 := cell_blk (i := 1) hbr rfl
    have r2 := cell_blk (i := 2) hbr rfl
    have r3 := cell_blk (i := 3) hbr rfl
    have f0 := free_blk (i := 0) hbr
    have f1 := free_blk (i := 1) hbr
    have f2 := free_blk (i := 2) hbr
    have f3 := free_blk (i := 3) hbr
    have HB1 := Lib.hid hb1
    have HBR := Lib.hid hbr
    clear hb1 hbr
    go_wp2_with fail
    obtain ⟨W, hW⟩ : ∃ W, W = (((w1.setCell ⟨w.heap.size + 1, 0, none⟩ (.slice none 0 0)).setCell ⟨w.heap.size + 1, 1, none⟩ (.slice none 0 0)).setCell ⟨w.heap.size + 1, 2, none⟩ (.slice none 0 0)).setCell ⟨w.heap.size + 1, 3, none⟩ (.slice none 0 0) := ⟨_, rfl⟩
    have hWb : W.heap[w.heap.size + 1]? = some (.cells #[.slice none 0 0, .slice none 0 0, .slice none 0 0, .slice none 0 0] 29 (0, 0)) := by rw [hW]; exact set_blk (i := 3) (set_blk (i := 2) (set_blk (i := 1) (set_blk (i := 0) HBR.out _) _) _) _
    have hWt : Tou (fun b => b = w.heap.size + 1) w1 W := by
      rw [hW]
      exact (((tou_set _ _ _ _).trans (tou_set _ _ _ _) (fun _ _ h => h)).trans (tou_set _ _ _ _) (fun _ _ h => h)).trans (tou_set _ _ _ _) (fun _ _ h => h)
    rw [← hW]
    clear hW r0 r1 r2 r3 f0 f1 f2 f3
    have e0' := cell_blk (i := 0) hWb rfl
    have e1 := cell_blk (i := 1) hWb rfl
    have e2 := cell_blk (i := 2) hWb rfl
    have e3 := cell_blk (i := 3) hWb rfl
    have h01 := HB0.out.trans (HB1.out.mono HB0.out.size)
    exact bodyPost_ret (v := .tuple #[.agg #[.slice none 0 0, .slice none 0 0, .slice none 0 0, .slice none 0 0], .int .i64 e0]) (by simp [results, Tryz.results5, go_sem, e0', e1, e2, e3]) rfl (HPO.out W (h01.trans (hWt.below (fun b hb => by omega) h01.size)))
end Go.Proofs.YtomleengbnfikaaGreatDoor
