/-
strings.SplitSeq: the parts of a text, one by one; and what Decode keeps between them.
-/
import Derived.Test.YtpbngckplbnahaaGreatDoorFbRounds
import Derived.Test.YtpbngckplbnahaaGreatDoorFbEncL
import Derived.Test.YtpbngckplbnahaaGreatDoorFormEnts
namespace Go.Proofs.YtpbngckplbnahaaGreatDoor
open Go.RowKit Go.Cl Go.Shelf
attribute [local go_sem] Oper.semAt_some
attribute [local go_sem ↓] Go.wp_at_zero Go.wp_at_succ

/-- Between two rounds of Decode: the entries so far, and what is left of the text (y). -/
structure SpI (w5 : World) (X : Nat) (acc : List DAttr) (y : ByteArray) (W : World) : Prop where
  low : Below X w5 W
  size : w5.heap.size ≤ W.heap.size
  top : w5.heap.size = X + 4
  out : ∃ v, W.heap[X]? = some (.cells #[v] 32 (0, 0)) ∧ OwnF tDA W w5.heap.size 38 v acc.length acc
  sb : W.heap[X + 1]? = some (.cells #[.string y] 9 (0, 0))
  pb : W.heap[X + 2]? = some (.cells #[.string ⟨#[38]⟩] 9 (0, 0))
  zb : W.heap[X + 3]? = some (.cells #[.int .i64 0] 3 (0, 0))
section
variable {w5 W W' : World} {X : Nat} {acc : List DAttr} {y z : ByteArray}
theorem SpI.next (h : SpI w5 X acc y W) (hb : Below W.heap.size W W') : SpI w5 X acc y W' := by
  obtain ⟨v, v1, v2⟩ := h.out
  have hz := h.size
  have ht := h.top
  exact ⟨h.low.trans (hb.mono (by omega)), Nat.le_trans hz hb.size, ht, ⟨v, blk_next v1 hb, v2.below hb (Nat.le_refl _)⟩, blk_next h.sb hb, blk_next h.pb hb, blk_next h.zb hb⟩
theorem SpI.own : OwnFrom w5.heap.size (fun (_ : Unit) W => SpI w5 X acc y W) := by
  rintro _ W W' row h hg hr
  obtain ⟨v, v1, v2⟩ := h.out
  have hz := h.size
  have ht := h.top
  have hb : Below w5.heap.size W W' := (Below.refl _ _).grown hg hz fun r e => (hr r e).1
  refine ⟨h.low.trans (hb.mono (by omega)), Nat.le_trans hz hg.size, ht, ⟨v, (hb.block _ (by omega)).trans v1, Cl.Own.kept v2 hg ?_ fun _ h => h.elim⟩, (hb.block _ (by omega)).trans h.sb, (hb.block _ (by omega)).trans h.pb, (hb.block _ (by omega)).trans h.zb⟩
  cases hv : v.ownBlock with
  | none => exact .inl rfl
  | some g =>
    right
    intro e
    obtain ⟨_, o, ho, hoc⟩ := hr g e.symm
    obtain ⟨cs, hc⟩ := own_blk_cells v2 hv
    rw [hc] at ho
    obtain rfl := Option.some.inj ho
    cases hoc
/-- What is left has turned. -/
theorem SpI.turn (h : SpI w5 X acc y W) (z : ByteArray) : SpI w5 X acc z (W.setCell ⟨X + 1, 0, none⟩ (.string z)) ∧ KeepsLD W (W.setCell ⟨X + 1, 0, none⟩ (.string z)) := by
  obtain ⟨v, v1, v2⟩ := h.out
  have hz := h.size
  have ht := h.top
  have hg := grown_set W (X + 1) 0 (.string z)
  have hoth : ∀ g, g ≠ X + 1 → (W.setCell ⟨X + 1, 0, none⟩ (.string z)).heap[g]? = W.heap[g]? := fun g hg => heap_setCell_other W ⟨X + 1, 0, none⟩ g (.string z) hg
  refine ⟨⟨h.low.setCell (p := ⟨X + 1, 0, none⟩) (Nat.le_succ _) _, Nat.le_trans hz hg.size, ht, ⟨v, (hoth _ (by omega)).trans v1, Cl.Own.kept v2 hg (keep_blk v2 (by omega)) fun _ h => h.elim⟩, set_blk h.sb _, (hoth _ (by omega)).trans h.pb, (hoth _ (by omega)).trans h.zb⟩, KeepsLD.grown hg fun r e o ho => ?_⟩
  cases e
  rw [h.sb] at ho
  obtain rfl := Option.some.inj ho
  rfl
/-- One more entry. -/
theorem SpI.put (h : SpI w5 X acc y W) {V1 V2 : World} {v' : Value} {E : List DAttr} (hb1 : Below W.heap.size W V1) (hb2 : Below w5.heap.size V1 V2) {v : Value} (hv : W.heap[X]? = some (.cells #[v] 32 (0, 0))) (hg : V1.grownBy V2 v.ownBlock) (ho : OwnF tDA V2 w5.heap.size 38 v' (acc ++ E).length (acc ++ E)) :
    SpI w5 X (acc ++ E) y (V2.setCell ⟨X, 0, none⟩ v') ∧ KeepsLD W (V2.setCell ⟨X, 0, none⟩ v') := by
  have hn := h.next hb1
  obtain ⟨v0, v1, v2⟩ := hn.out
  have hvv : v0 = v := by
    have h1 := (blk_next hv hb1).symm.trans v1
    injection h1 with h1
    injection h1 with h1
    injection h1 with h1
    injection h1 with h1
    exact h1.symm
  subst hvv
  have hz := h.size
  have ht := h.top
  have hz1 := hn.size
  have hx : V2.heap[X]? = some (.cells #[v0] 32 (0, 0)) := (hb2.block X (by omega)).trans v1
  have hg2 := grown_set V2 X 0 v'
  have hoth : ∀ g, g ≠ X → (V2.setCell ⟨X, 0, none⟩ v').heap[g]? = V2.heap[g]? := fun g hg => heap_setCell_other V2 ⟨X, 0, none⟩ g v' hg
  refine ⟨⟨(hn.low.trans (hb2.mono (by omega))).setCell (p := ⟨X, 0, none⟩) (Nat.le_refl _) _, Nat.le_trans hz1 (Nat.le_trans hb2.size hg2.size), ht, ⟨v', set_blk hx v', Cl.Own.kept ho hg2 (keep_blk ho (by omega)) fun _ h => h.elim⟩, (hoth _ (by omega)).trans ((hb2.block _ (by omega)).trans hn.sb), (hoth _ (by omega)).trans ((hb2.block _ (by omega)).trans hn.pb), (hoth _ (by omega)).trans ((hb2.block _ (by omega)).trans hn.zb)⟩, ((KeepsLD.below hb1).trans (KeepsLD.grown hg fun r e o ho => ?_)).trans (KeepsLD.grown hg2 fun r e o ho => ?_)⟩
  · obtain ⟨cs, hc⟩ := own_blk_cells v2 e
    rw [hc] at ho
    obtain rfl := Option.some.inj ho
    rfl
  · cases e
    rw [hx] at ho
    obtain rfl := Option.some.inj ho
    rfl
end
theorem splitSeq_any (s : ByteArray) (w : World) :
    Calls Tryz.prog 49 #[.string s, .string ⟨#[38]⟩] w fun e w' => e = .returned (.func (.func 133) #[] #[.pointer (some ⟨w.heap.size + 1, 0, none⟩), .pointer (some ⟨w.heap.size, 0, none⟩), .pointer (some ⟨w.heap.size + 1 + 1, 0, none⟩)]) ∧
      w' = ((w.alloc (.cells #[.string s] 9)).alloc (.cells #[.string ⟨#[38]⟩] 9)).alloc (.cells #[.int .i64 0] 3) := by
  have h1 : ∀ u : World, Calls Tryz.prog 95 #[.string s, .string ⟨#[38]⟩, .int .i64 0] u fun e w' => e = .returned (.func (.func 133) #[] #[.pointer (some ⟨u.heap.size + 1, 0, none⟩), .pointer (some ⟨u.heap.size, 0, none⟩), .pointer (some ⟨u.heap.size + 1 + 1, 0, none⟩)]) ∧
      w' = ((u.alloc (.cells #[.string s] 9)).alloc (.cells #[.string ⟨#[38]⟩] 9)).alloc (.cells #[.int .i64 0] 3) := by
    intro u
    go_enter Tryz.func95, Tryz.ntmps95
    go_wp2_with fail
    go_ret
    exact ⟨by simp, rfl⟩
  have H1 := Lib.hid h1
  clear h1
  go_enter Tryz.func49, Tryz.ntmps49
  go_wp2_with (go_at_call 95; refine (H1.out _).mono ?_; rintro e' w2 ⟨rfl, rfl⟩)
  go_ret
  exact ⟨rfl, rfl⟩
/-- How much is left. -/
def boxLen (W : World) (X : Nat) : Nat := match W.cell? ⟨X + 1, 0, none⟩ with
  | some (.string s) => s.size
  | _ => 0
theorem boxLen_of {W : World} {X : Nat} {y : ByteArray} {t : TypeId} (h : W.heap[X + 1]? = some (.cells #[.string y] t (0, 0))) : boxLen W X = y.size := by
  unfold boxLen
  rw [cell_blk (i := 0) h rfl]
  rfl
theorem ext_take (p r : List UInt8) : (⟨(p ++ r).toArray⟩ : ByteArray).extract 0 p.length = ⟨p.toArray⟩ := by
  apply ByteArray.ext
  apply Array.toList_inj.1
  rw [ByteArray.data_extract, Array.toList_extract, List.extract_eq_take_drop]
  simp
theorem ext_drop (p r : List UInt8) (c : UInt8) : (⟨(p ++ c :: r).toArray⟩ : ByteArray).extract (p.length + 1) (p.length + 1 + r.length) = ⟨r.toArray⟩ := by
  apply ByteArray.ext
  apply Array.toList_inj.1
  rw [ByteArray.data_extract, Array.toList_extract, List.extract_eq_take_drop]
  rw [show (p ++ c :: r).toArray.toList = (p ++ [c]) ++ r by simp, List.drop_left' (by simp)]
  simp
theorem fbJoin_drop : ∀ (ps : List (List UInt8)) (k : Nat), (fbJoin (ps.drop k)).length ≤ (fbJoin ps).length
  | ps, 0 => by simp
  | [], k + 1 => by simp
  | [x], k + 1 => by simp [fbJoin]
  | x :: y :: r, k + 1 => by
    have h := fbJoin_drop (y :: r) k
    show (fbJoin ((y :: r).drop k)).length ≤ (x ++ 38 :: fbJoin (y :: r)).length
    rw [List.length_append, List.length_cons]
    omega
set_option maxRecDepth 100000 in
set_option maxHeartbeats 4000000 in
theorem split1_in (n : Nat) (hn : 1 ≤ n) (l X : Nat) (ps : List (List UInt8)) (hp : ∀ p ∈ ps, (38 : UInt8) ∉ p) (h0 : ps ≠ []) (hsz : (fbJoin ps).length ≤ 4000) (J : ByteArray → Nat → World → Prop)
    (hJ : ∀ y k W, J y k W → W.heap[X + 1]? = some (.cells #[.string y] 9 (0, 0)) ∧ W.cell? ⟨X + 2, 0, none⟩ = some (.string ⟨#[38]⟩) ∧ W.cell? ⟨X + 3, 0, none⟩ = some (.int .i64 0))
    (hY : ∀ y k W1, k < ps.length → J y k W1 → YieldAt Fence.wide (n - 1) Tryz.prog l #[.string ⟨(ps.getD k []).toArray⟩] W1 fun e W' => e = .returned (.bool true) ∧ J y (k + 1) W')
    (hM : ∀ y z k W, J y k W → J z k (W.setCell ⟨X + 1, 0, none⟩ (.string z)))
    (W : World) (hJ0 : J ⟨(fbJoin ps).toArray⟩ 0 W) :
    CallsIn Fence.wide n Tryz.prog 133 #[.func (.yield l) #[] #[], .pointer (some ⟨X + 2, 0, none⟩), .pointer (some ⟨X + 1, 0, none⟩), .pointer (some ⟨X + 3, 0, none⟩)] W fun e W' => (∃ v, e = .returned v) ∧ ∃ y, J y ps.length W' := by
  obtain ⟨b0, cp, cz⟩ := hJ _ _ _ hJ0
  have cs : W.cell? ⟨X + 1, 0, none⟩ = some (.string ⟨(fbJoin ps).toArray⟩) := cell_blk (i := 0) b0 rfl
  have HJ0 := Lib.hid hJ0
  have HPL : Hid (0 < ps.length) := List.length_pos_iff.2 h0
  have HSZ : Hid (∀ k, (fbJoin (ps.drop k)).length ≤ 4000) := fun k => Nat.le_trans (fbJoin_drop ps k) hsz
  clear b0 hJ0 h0
  refine callsIn_of_wp Tryz.func133 rfl trivial ?_ rfl
  simp only [Tryz.ntmps133, List.size_toArray, List.length_cons, List.length_nil, Nat.reduceAdd, Nat.reduceSub, Array.replicate_succ, Array.replicate_zero, List.push_toArray, List.append_toArray, List.nil_append, List.cons_append]
  gi_wp2
  clear cs cp cz
  gi_loopw [] (fun wr => ∃ k : Nat, k < ps.length ∧ J ⟨(fbJoin (ps.drop k)).toArray⟩ k wr) (fun wr => boxLen wr X)
  case atStart => exact ⟨0, HPL.out, HJ0.out⟩
  case round =>
    obtain ⟨k, hk, hJs⟩ := hrel
    obtain ⟨b1, cp, cz⟩ := hJ _ _ _ hJs
    obtain ⟨p, hp0⟩ : ∃ p, ps[k] = p := ⟨_, rfl⟩
    have hpn : (38 : UInt8) ∉ p := hp0 ▸ hp _ (List.getElem_mem hk)
    have hdk : ps.drop k = p :: ps.drop (k + 1) := hp0 ▸ List.drop_eq_getElem_cons hk
    have hgd : ps.getD k [] = p := by rw [List.getD_eq_getElem?_getD, List.getElem?_eq_getElem hk, hp0]; rfl
    have hsk := HSZ.out k
    obtain ⟨s, hs⟩ : ∃ s : ByteArray, (⟨(fbJoin (ps.drop k)).toArray⟩ : ByteArray) = s := ⟨_, rfl⟩
    rw [hs] at hJs b1
    have cs : wr.cell? ⟨X + 1, 0, none⟩ = some (.string s) := cell_blk (i := 0) b1 rfl
    have fr := free_blk (i := 0) b1
    have HBL := Lib.hid (boxLen_of b1)
    have HY := Lib.hid (hY s k)
    have HJs := Lib.hid hJs
    clear b1
    by_cases hlast : k + 1 < ps.length
    · obtain ⟨R, hR⟩ : ∃ R, fbJoin (ps.drop (k + 1)) = R := ⟨_, rfl⟩
      have hS : fbJoin (ps.drop k) = p ++ 38 :: R := by rw [hdk, ← hR, List.drop_eq_getElem_cons hlast]; rfl
      have x1 : s.extract 0 p.length = ⟨p.toArray⟩ := by rw [← hs, hS]; exact ext_take p _
      have hss : s.size = p.length + 1 + R.length := by rw [← hs, hS]; show (p ++ 38 :: R).toArray.size = _; simp; omega
      have x2 : s.extract (p.length + 1) s.size = ⟨R.toArray⟩ := by rw [hss, ← hs, hS]; exact ext_drop p R 38
      have hix : Lib.indexByte s.data.toList 38 = (p.length : Int) := by rw [← hs, hS]; exact fb_at hpn
      have HIX := Lib.hid fun u : World => (hix ▸ Tryz.strings_Index_one s 38 u : Calls Tryz.prog 109 #[.string s, .string ⟨#[38]⟩] u fun e w' => e = .returned (.int .i64 (p.length : Int)) ∧ w' = u)
      obtain ⟨m, hm⟩ : ∃ m, p.length = m := ⟨_, rfl⟩
      obtain ⟨pS, hpS⟩ : ∃ pS : ByteArray, (⟨p.toArray⟩ : ByteArray) = pS := ⟨_, rfl⟩
      obtain ⟨rS, hrS⟩ : ∃ rS : ByteArray, (⟨R.toArray⟩ : ByteArray) = rS := ⟨_, rfl⟩
      rw [hm] at x1 x2 hss HIX
      rw [hpS] at x1
      rw [hrS] at x2
      rw [hgd, hpS] at HY
      have HRS := Lib.hid (show (⟨(fbJoin (ps.drop (k + 1))).toArray⟩ : ByteArray) = rS from by rw [hR, hrS])
      have HRL := Lib.hid (show rS.size = R.length from by rw [← hrS]; rfl)
      have HSS := Lib.hid hss
      rw [hS] at hsk
      have hm4 : m ≤ 4000 := by rw [List.length_append] at hsk; omega
      have i1 : (0 : Int) ≤ (m : Int) := by omega
      have i2 : (m : Int) ≤ (s.size : Int) := by omega
      have i3 : (m : Int) + 1 ≤ (s.size : Int) := by omega
      have i4 : (0 : Int) ≤ (m : Int) + 1 := by omega
      have i5 : ¬ (m : Int) < 0 := by omega
      have n1 : ((m : Int) + 1).toNat = m + 1 := by omega
      have w1 : IntKind.i64.wrap ((m : Int) + 1) = (m : Int) + 1 := IntWalk.i64_in _ (by omega)
      clear hS hss hix hs hR hpS hrS hsk hdk hgd hp0 hpn hm hJs hY
      have HX1 := Lib.hid x1
      have HX2 := Lib.hid x2
      obtain ⟨fn, tmps, assign, body, hy, hR⟩ := HY.out wr hk HJs.out
      have HRR := Lib.hid hR
      clear hR HY
      gi_wp2
      refine ⟨trivial, callsIn_wide.2 ((HIX.out _).mono ?_)⟩
      rintro e' W2 ⟨rfl, hw2⟩
      obtain rfl : wr = W2 := hw2.symm
      gi_wp2
      refine HRR.out.mono ?_
      rintro e'' W3 ⟨rfl, hJ3⟩
      obtain ⟨b3, cp3, cz3⟩ := hJ _ _ _ hJ3
      have cs3 : W3.cell? ⟨X + 1, 0, none⟩ = some (.string s) := cell_blk (i := 0) b3 rfl
      have fr3 := free_blk (i := 0) b3
      have HJ4 := Lib.hid (hM s rS (k + 1) W3 hJ3)
      have HB4 := Lib.hid (set_blk (i := 0) b3 (.string rS))
      have HHL := Lib.hid hlast
      clear b3 hJ3 cs cp cz fr hlast
      gi_wp2
      go_roundw
      case rel => exact ⟨k + 1, HHL.out, by rw [HRS.out]; exact HJ4.out⟩
      case measure =>
        rw [boxLen_of HB4.out, HBL.out, HSS.out, HRL.out]
        omega
    · have hS : fbJoin (ps.drop k) = p := by rw [hdk, List.drop_eq_nil_of_le (by omega)]; rfl
      have hix : Lib.indexByte s.data.toList 38 = -1 := by rw [← hs, hS]; exact fb_not hpn
      have HIX := Lib.hid fun u : World => (hix ▸ Tryz.strings_Index_one s 38 u : Calls Tryz.prog 109 #[.string s, .string ⟨#[38]⟩] u fun e w' => e = .returned (.int .i64 (-1)) ∧ w' = u)
      rw [hgd, ← hS, hs] at HY
      obtain ⟨fn, tmps, assign, body, hy, hR⟩ := HY.out wr hk HJs.out
      have HRR := Lib.hid hR
      have HKE := Lib.hid (show k + 1 = ps.length by omega)
      clear hR HY hS hix hs hsk hdk hgd hp0 hpn hJs hY
      gi_wp2
      refine ⟨trivial, callsIn_wide.2 ((HIX.out _).mono ?_)⟩
      rintro e' W2 ⟨rfl, hw2⟩
      obtain rfl : wr = W2 := hw2.symm
      gi_wp2
      refine HRR.out.mono ?_
      rintro e'' W3 ⟨rfl, hJ3⟩
      gi_wp2
      go_end0
      exact ⟨⟨_, rfl⟩, s, by rw [← HKE.out]; exact hJ3⟩
end Go.Proofs.YtpbngckplbnahaaGreatDoor
