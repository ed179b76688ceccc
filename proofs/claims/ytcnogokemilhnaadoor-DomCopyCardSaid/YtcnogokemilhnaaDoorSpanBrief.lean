/-
The walks of some and brief: the short form of a document.
-/
import Derived.Test.YtcnogokemilhnaaDoorSpanLess
import Derived.Test.YtcnogokemilhnaaDoorSpanLaw
import Derived.Test.YtcnogokemilhnaaDoorEdDocs
namespace Go.Proofs.YtcnogokemilhnaaDoor
open Go.RowKit Go.Cl
attribute [local go_sem ↓] Go.wp_at_zero Go.wp_at_succ

theorem some_k (s : ByteArray) (n k : Nat) (w : World) (_hs : s.size ≤ 1152921504606846976) (_hn : n ≤ 1000000) (hk : min (s.size : Int) (n : Int) = (k : Int)) :
    Calls Tryd.prog 38 #[.string s, .int .i64 n] w fun e w' => e = .returned (.string (s.extract 0 k)) ∧ w' = w := by
  have hk2 : k ≤ s.size := by omega
  go_enter Tryd.func38, Tryd.ntmps38
  go_wp2_with fail
  go_ret
  exact ⟨rfl, rfl⟩
/-- A node whose text is cut. -/
def cutNd (x : Nd) : Nd := { x with text := x.text.extract 0 (min x.text.size 30) }
/-- The first nodes are cut, the others not yet. -/
def cutsTo (i : Nat) (l : List Nd) : List Nd := (l.take i).map cutNd ++ l.drop i
theorem cutsTo_len (i : Nat) (l : List Nd) : (cutsTo i l).length = l.length := by
  unfold cutsTo
  rw [List.length_append, List.length_map, List.length_take, List.length_drop]
  omega
theorem cutsTo_at {i : Nat} {l : List Nd} {x : Nd} (hx : l[i]? = some x) : (cutsTo i l)[i]? = some x := by
  have hi := (List.getElem?_eq_some_iff.1 hx).1
  unfold cutsTo
  rw [List.getElem?_append_right (by simp; omega), List.length_map, List.length_take, List.getElem?_drop]
  rw [show i + (i - min i l.length) = i by omega]
  exact hx
theorem cutsTo_step {i : Nat} {l : List Nd} {x : Nd} (hx : l[i]? = some x) : (cutsTo i l).set i (cutNd x) = cutsTo (i + 1) l := by
  have hi := (List.getElem?_eq_some_iff.1 hx).1
  unfold cutsTo
  rw [List.set_append_right _ _ (by simp; omega), List.length_map, List.length_take, show i - min i l.length = 0 by omega, List.drop_eq_getElem_cons hi, List.set_cons_zero, List.take_add_one, hx, Option.toList_some, List.map_append, List.append_assoc]
  rfl
theorem cutsTo_all (l : List Nd) {i : Nat} (h : l.length ≤ i) : cutsTo i l = l.map cutNd := by
  unfold cutsTo
  rw [List.take_of_length_le h, List.drop_of_length_le h, List.append_nil]
theorem cut_rep {w : World} {D : Nat → Prop} {x : Nd} {cs : List Value} (h : tNd.rep w D x cs) : tNd.rep w D (cutNd x) (cs.set 3 (.string (cutNd x).text)) := by
  obtain ⟨Aa, na, ca, Ak, nk, ck, rfl, hn⟩ := nd_cells h
  refine nd_rep (x := cutNd x) ⟨hn.attrs, hn.kids, hn.kind, hn.name, ?_, hn.parent⟩
  have := hn.text
  show (x.text.extract 0 (min x.text.size 30)).size ≤ 1152921504606846976
  rw [ByteArray.size_extract]
  omega
/-- A round of brief's loop. -/
structure BB (w : World) (B : Nat) (A : Option Addr) (k c : Nat) (q : Bool) (l : List Nd) (A3 : Option Addr) (c3 i : Nat) (u : World) : Prop where
  below : Below w.heap.size w u
  box : u.heap[w.heap.size]? = some (.cells #[.slice A k c, .bool q] 24 (0, 0))
  res : u.heap[w.heap.size + 1]? = some (.cells #[.slice none 0 0, .bool false] 24 (0, 0))
  own : Own tNd u (w.heap.size + 2) 38 (lt B) (.slice A3 k c3) k (cutsTo i l)
theorem BB.at_ {w : World} {B : Nat} {A : Option Addr} {k c : Nat} {q : Bool} {l : List Nd} {A3 : Option Addr} {c3 i : Nat} {u : World} (h : BB w B A k c q l A3 c3 i u) (hi : i < k) {x : Nd} (hx : l[i]? = some x) :
    ∃ g, A3 = some ⟨g, 0, none⟩ ∧ w.heap.size + 2 ≤ g ∧ u.cell? ⟨g, i * 6 + 3, none⟩ = some (.string x.text) ∧ u.frozen? ⟨g, i * 6 + 3, none⟩ = false ∧ x.text.size ≤ 1152921504606846976 := by
  obtain ⟨g, cells, rfl, hb, _, hr, hc, hf⟩ := Own.block h.own (by omega)
  obtain ⟨cs, hcs, hj⟩ := hr.at_ (cutsTo_at hx)
  obtain ⟨Aa, na, ca, Ak, nk, ck, rfl, hn⟩ := nd_cells hcs
  exact ⟨g, rfl, hb, hc _ _ (hj 3 _ rfl), hf _, hn.text⟩
theorem BB.next {w : World} {B : Nat} {A : Option Addr} {k c : Nat} {q : Bool} {l : List Nd} {g c3 i : Nat} {u : World} (hB : B ≤ w.heap.size) (hg : w.heap.size + 2 ≤ g) (h : BB w B A k c q l (some ⟨g, 0, none⟩) c3 i u) {x : Nd} (hx : l[i]? = some x) :
    BB w B A k c q l (some ⟨g, 0, none⟩) c3 (i + 1) (u.setCell ⟨g, i * 6 + 3, none⟩ (.string (cutNd x).text)) := by
  have h1 : w.heap.size ≠ g := by omega
  have h2 : w.heap.size + 1 ≠ g := by omega
  refine ⟨h.below.setCell (p := ⟨g, i * 6 + 3, none⟩) (by show w.heap.size ≤ g; omega) _, (Below.heap_setCell _ _ _ _ h1).trans h.box, (Below.heap_setCell _ _ _ _ h2).trans h.res, ?_⟩
  have := Own.stored (T := tNd) (u := .string (cutNd x).text) (y := cutNd x) h.own (fun b hb e => by have h3 : b < B := hb; omega) (cutsTo_at hx) (j := 3) (by decide) (fun cs hcs => cut_rep hcs)
  rw [cutsTo_step hx] at this
  exact this
theorem own_apart {w u : World} {B k : Nat} {v : Value} {xs : List Nd} (h : Own tNd u (w.heap.size + 2) 38 (lt B) v k xs) (hB : B ≤ w.heap.size) (hs : w.heap.size + 2 ≤ u.heap.size) {g : Nat} (h1 : w.heap.size ≤ g) (h2 : g < w.heap.size + 2) (i : Nat) (x : Value) :
    Own tNd (u.setCell ⟨g, i, none⟩ x) (w.heap.size + 2) 38 (lt B) v k xs :=
  Own.kept h (grown_set u g i x) (by
    cases hv : v.ownBlock with
    | none => exact Or.inl rfl
    | some j =>
      refine Or.inr fun e => ?_
      have := (Own.lt h j hv).1
      simp at e
      omega) (fun b hb => by
      have h3 : b < B := hb
      refine ⟨by omega, fun e => ?_⟩
      simp at e
      omega)
set_option maxRecDepth 100000 in
set_option maxHeartbeats 4000000 in
theorem brief_any (A : Option Addr) (n c k : Nat) (l : List Nd) (q : Bool) (w : World) (B : Nat) (hl : Sl tNd w (lt B) A n c l) (hB : B ≤ w.heap.size) (hk : min (n : Int) 25 = (k : Int)) :
    Calls Tryd.prog 25 #[.agg #[.slice A n c, .bool q]] w fun e w' => ∃ A' c', e = .returned (.agg #[.slice A' k c', .bool q]) ∧ Below w.heap.size w w' ∧ Sl tNd w' (fun b => lt B b ∨ (w.heap.size ≤ b ∧ b < w'.heap.size)) A' k c' ((l.take k).map cutNd) := by
  obtain ⟨wa, hwa⟩ : ∃ wa, wa = w.alloc (.cells #[.slice A n c, .bool q] 24) := ⟨_, rfl⟩
  obtain ⟨w0, hw0⟩ : ∃ w0, w0 = wa.alloc (.cells #[.slice none 0 0, .bool false] 24) := ⟨_, rfl⟩
  have za : wa.heap.size = w.heap.size + 1 := by rw [hwa]; exact World.size_alloc w _
  have hx1 : w0.heap[w.heap.size]? = some (.cells #[.slice A n c, .bool q] 24 (0, 0)) := by rw [hw0, Lib.alloc_old _ _ _ (by omega), hwa]; exact heap_alloc_new w _
  have hx2 : w0.heap[w.heap.size + 1]? = some (.cells #[.slice none 0 0, .bool false] 24 (0, 0)) := by rw [hw0, ← za]; exact heap_alloc_new wa _
  have hb0 : Below w.heap.size w w0 := by rw [hw0, hwa]; exact ((Below.refl _ _).alloc (Nat.le_refl _) _).alloc (by simp) _
  have d0 : w0.cell? ⟨w.heap.size, 0, none⟩ = some (.slice A n c) := cell_blk hx1 rfl
  have d1 : w0.cell? ⟨w.heap.size, 1, none⟩ = some (.bool q) := cell_blk hx1 rfl
  have f0 := free_blk (i := 0) hx1
  have f1 := free_blk (i := 1) hx1
  have hkc : k ≤ c := by have := hl.hc; omega
  have HF := Lib.hid (few_any A n c k q 25 w0 hk hkc)
  have HB0 := Lib.hid hb0
  have HX1 := Lib.hid hx1
  have HX2 := Lib.hid hx2
  go_enter Tryd.func25, Tryd.ntmps25
  go_upto_region 1 with fail
  rw [← hwa, ← hw0]
  clear hwa hw0
  have HLT : Hid (w.heap.size + 1 < w0.heap.size) := (Array.getElem?_eq_some_iff.1 HX2.out).1
  go_upto_region 2 with (go_at_call 13; refine HF.out.mono ?_; rintro e' w1 ⟨rfl, hb1⟩; have hx3 := (hb1.block w.heap.size (Nat.lt_of_succ_lt HLT.out)).trans HX1.out; have g0 := free_blk (i := 0) hx3; have g1 := free_blk (i := 1) hx3; have e0 := cell_blk (i := 0) hx3 rfl; have e1 := cell_blk (i := 1) hx3 rfl)
  obtain ⟨w2, hw2⟩ : ∃ w2, w2 = (w1.setCell ⟨w.heap.size, 0, none⟩ (.slice A k c)).setCell ⟨w.heap.size, 1, none⟩ (.bool q) := ⟨_, rfl⟩
  have hx4 : w2.heap[w.heap.size]? = some (.cells #[.slice A k c, .bool q] 24 (0, 0)) := by rw [hw2]; exact set_blk (i := 1) (set_blk (i := 0) hx3 _) _
  have hne : w.heap.size + 1 ≠ w.heap.size := Nat.succ_ne_self _
  have hx5 : w2.heap[w.heap.size + 1]? = some (.cells #[.slice none 0 0, .bool false] 24 (0, 0)) := by rw [hw2]; exact (Below.heap_setCell _ _ _ _ hne).trans ((Below.heap_setCell _ _ _ _ hne).trans ((hb1.block _ HLT.out).trans HX2.out))
  have hb2 : Below w.heap.size w w2 := by rw [hw2]; exact ((HB0.out.trans (hb1.mono HB0.out.size)).setCell (p := ⟨w.heap.size, 0, none⟩) (Nat.le_refl _) _).setCell (p := ⟨w.heap.size, 1, none⟩) (Nat.le_refl _) _
  rw [← hw2]
  have HS2 := Lib.hid ((hl.below hb2 hB).cut_to (k := k) (by have := hl.hn; omega))
  have HX4 := Lib.hid hx4
  have HX5 := Lib.hid hx5
  have HB2 := Lib.hid hb2
  have HBW : Hid (B ≤ w2.heap.size) := Nat.le_trans hB hb2.size
  have HK := Lib.hid (show k ≤ 25 by omega)
  have HDD : Hid (∀ b, lt B b → b < (w2.alloc (.cells #[] 38)).heap.size ∧ some b ≠ (Value.slice (some ⟨w2.heap.size, 0, none⟩) 0 0).ownBlock) := fun b hb => by
    have h1 : b < B := hb
    have h2 := hb2.size
    refine ⟨by simp; omega, fun e => ?_⟩
    have h3 : b = w2.heap.size := by simpa [Value.ownBlock] using e
    omega
  have HSZ : Hid (w.heap.size + 2 ≤ w2.heap.size) := (Array.getElem?_eq_some_iff.1 hx5).1
  have c0 := cell_blk (i := 0) hx4 rfl
  have c0a : (w2.alloc (.cells #[] 38)).cell? ⟨w.heap.size, 0, none⟩ = some (.slice A k c) := cell_blk (i := 0) ((Lib.alloc_old w2 _ _ (Array.getElem?_eq_some_iff.1 hx4).1).trans hx4) rfl
  have hBl := hB
  clear hw2 hx1 hx2 hx3 hx4 hx5 hb0 hb1 hb2 hl hB hk g0 g1 e0 e1 d0 d1 f0 f1 HB0 HX1 HX2 HF HLT hne w1 w0
  go_upto_region 4 with (at_builtin; (refine wpList_apo _ rfl (.tmp 7) (.tmp 9) 22 rfl elemNd (v := .slice (some ⟨w2.heap.size, 0, none⟩) 0 0) (D := fun _ => False) rfl (OwnF.made _ (w.heap.size + 2) 38 HSZ.out) (fun _ h => h.elim) rfl (HS2.out.al HBW.out _) (fun b hb => HDD.out b hb) (by have := HK.out; omega) (by have := HK.out; omega) (by have := HSZ.out; simp; omega) ?_); intro v3 w3 hown3 hgr3 hbl3 _)
  obtain ⟨A3, c3, rfl⟩ := Own.form hown3
  have HL3 : Hid ((l.take k).length = k) := HS2.out.hn.symm
  have hb23 : Below w2.heap.size w2 w3 := ((Below.refl _ w2).alloc (Nat.le_refl _) _).trans ((Below.refl _ _).grown hgr3 (by simp) (fun j hj => by
    have h3 : j = w2.heap.size := by simpa [Value.ownBlock] using hj.symm
    omega))
  have H3 : Hid (BB w B A k c q (l.take k) A3 c3 0 w3) := by
    refine ⟨HB2.out.trans (hb23.mono HB2.out.size), (hb23.block _ (by have := HSZ.out; omega)).trans HX4.out, (hb23.block _ (by have := HSZ.out; omega)).trans HX5.out, ?_⟩
    obtain ⟨cells, h1, h2⟩ := hown3
    rw [Nat.zero_add] at h1
    exact ⟨cells, h1, h2.more fun b h => h.elim False.elim id⟩
  rw [Nat.zero_add]
  have hk63 : (k : Int) ≤ 25 := by have := HK.out; omega
  clear hown3 hgr3 hbl3 hb23 HDD HX4 HX5 HB2 HS2 c0 c0a HSZ
  go_loopw [4] (fun s wr => ∃ i : Nat, i ≤ k ∧ s = .int .i64 (i : Int) ∧ Hid (BB w B A k c q (l.take k) A3 c3 i wr)) (fun s _ => k - (intOf s).toNat)
  case atStart => exact ⟨0, Nat.zero_le _, rfl, H3⟩
  case round =>
    obtain ⟨i, hi, rfl, HR⟩ := hrel
    by_cases hlt : i < k
    · obtain ⟨x, hx⟩ : ∃ x, (l.take k)[i]? = some x := get_some (by have := HL3.out; omega)
      obtain ⟨g, rfl, hg, ct, ft, hsz⟩ := HR.out.at_ hlt hx
      have i1 : (0 : Int) ≤ (i : Int) := by omega
      have i2 : (i : Int) < (k : Int) := by omega
      have HSM := Lib.hid (some_k x.text 30 (min x.text.size 30) wr hsz (by decide) (by omega))
      have HNX := Lib.hid (BB.next hBl hg HR.out hx)
      clear hx hsz HR
      go_wp2_with (go_at_call 38; refine HSM.out.mono ?_; rintro e' w6 ⟨rfl, rfl⟩)
      go_roundw
      case rel => exact ⟨i + 1, by omega, by go_num, HNX⟩
      case measure => simp [intOf]; omega
    · have hik : i = k := by omega
      subst hik
      have hbx := HR.out.box
      have hrs := HR.out.res
      have hne : w.heap.size + 1 ≠ w.heap.size := Nat.succ_ne_self _
      have hz : w.heap.size + 2 ≤ wr.heap.size := (Array.getElem?_eq_some_iff.1 hrs).1
      have r0 := cell_blk (i := 0) hbx rfl
      have q0 := free_blk (i := 0) hbx
      obtain ⟨w7, hw7⟩ : ∃ w7, w7 = wr.setCell ⟨w.heap.size, 0, none⟩ (.slice A3 i c3) := ⟨_, rfl⟩
      have hbx7 : w7.heap[w.heap.size]? = some (.cells #[.slice A3 i c3, .bool q] 24 (0, 0)) := by rw [hw7]; exact set_blk (i := 0) hbx _
      have hrs7 : w7.heap[w.heap.size + 1]? = some (.cells #[.slice none 0 0, .bool false] 24 (0, 0)) := by rw [hw7]; exact (Below.heap_setCell _ _ _ _ hne).trans hrs
      have hb7 : Below w.heap.size w w7 := by rw [hw7]; exact HR.out.below.setCell (p := ⟨w.heap.size, 0, none⟩) (Nat.le_refl _) _
      have ho7 : Own tNd w7 (w.heap.size + 2) 38 (lt B) (.slice A3 i c3) i (cutsTo i (l.take i)) := by rw [hw7]; exact own_apart HR.out.own hBl hz (Nat.le_refl _) (by omega) _ _
      have hz7 : w.heap.size + 2 ≤ w7.heap.size := (Array.getElem?_eq_some_iff.1 hrs7).1
      have hend : cutsTo i (l.take i) = (l.take i).map cutNd := cutsTo_all _ (by rw [HL3.out]; exact Nat.le_refl _)
      rw [hend] at ho7
      have b0 := cell_blk (i := 0) hbx7 rfl
      have b1 := cell_blk (i := 1) hbx7 rfl
      have s0 := cell_blk (i := 0) hrs7 rfl
      have s1 := cell_blk (i := 1) hrs7 rfl
      have g0 := free_blk (i := 0) hrs7
      have g1 := free_blk (i := 1) hrs7
      have hrs8 := set_blk (i := 0) hrs7 (.slice A3 i c3)
      have hrs9 := set_blk (i := 1) hrs8 (.bool q)
      have t0 := cell_blk (i := 0) (v := .slice A3 i c3) hrs9 rfl
      have t1 := cell_blk (i := 1) (v := .bool q) hrs9 rfl
      have HBF := Lib.hid ((hb7.setCell (p := ⟨w.heap.size + 1, 0, none⟩) (by show w.heap.size ≤ w.heap.size + 1; omega) (.slice A3 i c3)).setCell (p := ⟨w.heap.size + 1, 1, none⟩) (by show w.heap.size ≤ w.heap.size + 1; omega) (.bool q))
      have ho8 := own_apart ho7 hBl hz7 (g := w.heap.size + 1) (by omega) (by omega) 0 (.slice A3 i c3)
      have ho9 := own_apart ho8 hBl (by simp only [World.size_setCell]; exact hz7) (g := w.heap.size + 1) (by omega) (by omega) 1 (.bool q)
      have HSF := Lib.hid ((Own.sl ho9 (by decide) (by show i * 96 ≤ _; omega)).more (D' := fun b => lt B b ∨ (w.heap.size ≤ b ∧ b < ((w7.setCell ⟨w.heap.size + 1, 0, none⟩ (.slice A3 i c3)).setCell ⟨w.heap.size + 1, 1, none⟩ (.bool q)).heap.size)) fun b hb => hb.elim Or.inl fun hb => Or.inr ⟨by have := hb.1; omega, hb.2⟩)
      clear hbx hrs hbx7 hrs7 hrs8 hrs9 hb7 ho7 ho8 ho9 hend hne hz hz7 HR
      go_upto_region 8 with fail
      rw [← hw7]
      clear hw7 r0 q0
      go_wp2_with fail
      refine bodyPost_ret (v := .agg #[.slice A3 i c3, .bool q]) (by simp [results, Tryd.results25, go_sem, t0, t1]) rfl ⟨A3, c3, rfl, HBF.out, HSF.out⟩
end Go.Proofs.YtcnogokemilhnaaDoor
