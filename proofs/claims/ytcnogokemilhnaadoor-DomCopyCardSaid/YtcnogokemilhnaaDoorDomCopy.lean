/-
The walk of DomCopy.
-/
import Derived.Test.YtcnogokemilhnaaDoorCopyKit
import Derived.Test.YtcnogokemilhnaaDoorCopyLaw2
import Derived.Test.YtcnogokemilhnaaDoorSameDoc
import Derived.Test.YtcnogokemilhnaaDoorTextOf
import Derived.Test.YtcnogokemilhnaaDoorDocBox
import Derived.Test.YtcnogokemilhnaaDoorEdDocs
namespace Go.Proofs.YtcnogokemilhnaaDoor
open Go.RowKit Go.Cl
attribute [local go_sem ↓] Go.wp_at_zero Go.wp_at_succ

/-- What Copy's contract says. -/
def CopySaid : Prop := ∀ (A : Option Addr) (n c : Nat) (l : List Nd) (q : Bool) (z : Int) (w : World) (B : Nat), Sl tNd w (lt B) A n c l → B ≤ w.heap.size → l.length ≤ 100 → Calls Tryd.prog 19 #[.agg #[.slice A n c, .bool q], .int .i64 z] w (CpPost w l q z)
theorem cp_zero {l : List Nd} {z : Int} (h : cpErr l z = 0) : checkD l = 0 ∧ ∃ m : Nat, z = (m : Int) ∧ m < l.length ∧ m ≠ 0 := by
  unfold cpErr at h
  by_cases hc : checkD l = 0
  · rw [if_neg (by simpa using hc)] at h
    by_cases h1 : z < 0 ∨ (l.length : Int) ≤ z
    · rw [if_pos h1] at h; cases h
    · rw [if_neg h1] at h
      by_cases h2 : z = 0
      · rw [if_pos h2] at h; cases h
      · exact ⟨hc, z.toNat, by omega, by omega, by omega⟩
  · rw [if_pos hc] at h; exact absurd h hc
/-- All that the law wants of a copy. -/
structure CpAll (l : List Nd) (m : Nat) (cc : List Nd) (t : ByteArray) : Prop where
  good : checkD l = 0
  good2 : checkD cc = 0
  txt : txtOf l m = (t, 0)
  txt2 : txtOf cc (l.length : Nat) = (t, 0)
  old : cc.take l.length = l
  len : l.length ≤ cc.length
  few : cc.length ≤ 200
  like0 : ∃ f, Like cc l f 0 0
  fin : parD l m = -1 ∨ ∃ (p : Nat) (l2 : List Nd), parD l m = (p : Int) ∧ p < l.length ∧ alR cc [cpIns p l.length m, cpRem m] = (l2, 0, 0) ∧ checkD l2 = 0 ∧ Like l2 l 41 0 0
theorem cp_all {l : List Nd} {m : Nat} (hc : checkD l = 0) (hm : m < l.length) (h0 : m ≠ 0) (hf : l.length ≤ 60) : ∃ t, CpAll l m (cpEnd l m) t := by
  have G := good_of hc
  have T := tree_of hc
  have C := T.cp_end hm
  have hfew := T.pre_few hm
  have hs : l.length + (preR l m).length ≤ 200 := by omega
  have Gc := copy_good G hm h0 hs C
  have ht : (txtOf l m).2 = 0 := by
    have ha : askS l m = 0 := by
      unfold askS
      rw [if_neg (by rw [hc]; simp), if_neg (by omega)]
    unfold txtOf
    rw [if_neg (by rw [ha]; simp)]
    split <;> rfl
  have ht2 : txtOf l m = ((txtOf l m).1, 0) := Prod.ext rfl ht
  refine ⟨(txtOf l m).1, hc, check_of Gc, ht2, (copy_text G hm C Gc).trans ht2, ?_, by have := C.len; omega, by have := C.len; omega, ⟨_, like_old G C _ 0 G.pos (T.fuel G.pos)⟩, ?_⟩
  · apply List.ext_getElem?
    intro j
    by_cases hj : j < l.length
    · rw [List.getElem?_take, if_pos hj]; exact C.old j hj
    · rw [List.getElem?_eq_none (by rw [List.length_take]; omega), List.getElem?_eq_none (by omega)]
  · rcases T.par hm with h | ⟨p, hp, hpl, _⟩
    · exact Or.inl h
    · obtain ⟨l2, h1, h2, h3⟩ := copy_put G hm h0 C Gc hp
      exact Or.inr ⟨p, l2, hp, hpl, h1, check_of h2, h3⟩
theorem cp_row {w : World} {D : Nat → Prop} {p k m : Int} (hp : (Lit.int .i64 p).wf = true) (hk : (Lit.int .i64 k).wf = true) (hm : (Lit.int .i64 m).wf = true) : Row tEdt w D [cpIns p k m, cpRem m] [.int .i64 5, .int .i64 p, .int .i64 k, .int .i64 m, .string ⟨#[]⟩, .string ⟨#[]⟩, .int .i64 0, .string ⟨#[]⟩, .slice none 0 0, .string ⟨#[]⟩, .int .i64 0, .slice none 0 0, .int .i64 6, .int .i64 m, .int .i64 0, .int .i64 0, .string ⟨#[]⟩, .string ⟨#[]⟩, .int .i64 0, .string ⟨#[]⟩, .slice none 0 0, .string ⟨#[]⟩, .int .i64 0, .slice none 0 0] :=
  ⟨(edtCells (cpIns p k m) none 0 0 none 0 0).toList, _, rfl, edt_rep ⟨⟨Sl.nil, Sl.nil, (by decide : (Lit.int .i64 0).wf = true), (by decide : (⟨#[]⟩ : ByteArray).size ≤ 1152921504606846976), (by decide : (⟨#[]⟩ : ByteArray).size ≤ 1152921504606846976), (by decide : (Lit.int .i64 0).wf = true)⟩, hp, hk, hm, (by decide : (⟨#[]⟩ : ByteArray).size ≤ 1152921504606846976), (by decide : (⟨#[]⟩ : ByteArray).size ≤ 1152921504606846976)⟩ (by decide : (Lit.int .i64 5).wf = true),
    (edtCells (cpRem m) none 0 0 none 0 0).toList, [], rfl, edt_rep ⟨⟨Sl.nil, Sl.nil, (by decide : (Lit.int .i64 0).wf = true), (by decide : (⟨#[]⟩ : ByteArray).size ≤ 1152921504606846976), (by decide : (⟨#[]⟩ : ByteArray).size ≤ 1152921504606846976), (by decide : (Lit.int .i64 0).wf = true)⟩, hm, (by decide : (Lit.int .i64 0).wf = true), (by decide : (Lit.int .i64 0).wf = true), (by decide : (⟨#[]⟩ : ByteArray).size ≤ 1152921504606846976), (by decide : (⟨#[]⟩ : ByteArray).size ≤ 1152921504606846976)⟩ (by decide : (Lit.int .i64 6).wf = true), rfl⟩
/-- The document and its copy, in their boxes. -/
structure DC (w : World) (B : Nat) (A : Option Addr) (k c : Nat) (q : Bool) (l : List Nd) (N : Nat) (A' : Option Addr) (L c' : Nat) (cc : List Nd) (u : World) : Prop where
  db : DB w B A k c q l u
  nbox : u.heap[N]? = some (.cells #[.slice A' L c', .bool q] 24 (0, 0))
  now : Sl tNd u (lt N) A' L c' cc
  nlow : w.heap.size < N
section
variable {w : World} {B : Nat} {A : Option Addr} {k c : Nat} {q : Bool} {l : List Nd} {N : Nat} {A' : Option Addr} {L c' : Nat} {cc : List Nd} {u u' : World}
theorem DC.lt (h : DC w B A k c q l N A' L c' cc u) : N < u.heap.size := (Array.getElem?_eq_some_iff.1 h.nbox).1
theorem DC.next (h : DC w B A k c q l N A' L c' cc u) (hb : Below u.heap.size u u') : DC w B A k c q l N A' L c' cc u' :=
  ⟨h.db.next hb, (hb.block _ h.lt).trans h.nbox, h.now.below hb (Nat.le_of_lt h.lt), h.nlow⟩
theorem DC.n0 (h : DC w B A k c q l N A' L c' cc u) : u.cell? ⟨N, 0, none⟩ = some (.slice A' L c') := cell_blk h.nbox rfl
theorem DC.n1 (h : DC w B A k c q l N A' L c' cc u) : u.cell? ⟨N, 1, none⟩ = some (.bool q) := cell_blk h.nbox rfl
end
set_option maxRecDepth 100000 in
set_option maxHeartbeats 8000000 in
theorem domCopy_walk0 (HCY : CopySaid) (A : Option Addr) (n c : Nat) (l : List Nd) (q : Bool) (b : Int) (w : World) (B : Nat) (hl : Sl tNd w (lt B) A n c l) (hB : B ≤ w.heap.size) (hbw : (Lit.int .i64 b).wf = true) :
    Calls Tryd.prog 4 #[.agg #[.slice A n c, .bool q], .int .i64 b] w fun e w' => e = .returned (.bool true) ∧ Below w.heap.size w w' := by
  obtain ⟨w0, hw0⟩ : ∃ w0, w0 = w.alloc (.cells #[.slice A n c, .bool q] 24) := ⟨_, rfl⟩
  have hbx : w0.heap[w.heap.size]? = some (.cells #[.slice A n c, .bool q] 24 (0, 0)) := by rw [hw0]; exact heap_alloc_new w _
  have b0 : w0.cell? ⟨w.heap.size, 0, none⟩ = some (.slice A n c) := cell_blk hbx rfl
  have b1 : w0.cell? ⟨w.heap.size, 1, none⟩ = some (.bool q) := cell_blk hbx rfl
  have hb0 : Below w.heap.size w w0 := by rw [hw0]; exact (Below.refl _ _).alloc (Nat.le_refl _) _
  have hz0 : w0.heap.size = w.heap.size + 1 := by rw [hw0]; exact World.size_alloc w _
  have HB0 := Lib.hid hb0
  have HBX := Lib.hid hbx
  have HL := Lib.hid hl
  have HN0 := Lib.hid hl.hn
  obtain ⟨k, hk, hkc, hkn, hk60⟩ : ∃ k : Nat, min (n : Int) 60 = (k : Int) ∧ k ≤ c ∧ k ≤ n ∧ k ≤ 60 := ⟨min n 60, by omega, by have := hl.hc; omega, by omega, by omega⟩
  have HF := Lib.hid (few_any A n c k q 60 w0 hk hkc)
  clear hb0 hl
  go_enter Tryd.func4, Tryd.ntmps4
  go_upto_region 1 with fail
  rw [← hw0]
  clear hw0
  go_upto_region 2 with (go_at_call 13; refine HF.out.mono ?_; rintro e w1 ⟨rfl, hb1⟩; have hbx1 : w1.heap[w.heap.size]? = some (.cells #[.slice A n c, .bool q] 24 (0, 0)) := (hb1.block _ (by omega)).trans HBX.out; have y0 : w1.cell? ⟨w.heap.size, 0, none⟩ = some (.slice A n c) := cell_blk hbx1 rfl; have y1 : w1.cell? ⟨w.heap.size, 1, none⟩ = some (.bool q) := cell_blk hbx1 rfl; have f0 : w1.frozen? ⟨w.heap.size, 0, none⟩ = false := free_blk hbx1; have f1 : w1.frozen? ⟨w.heap.size, 1, none⟩ = false := free_blk hbx1)
  obtain ⟨w2, hw2⟩ : ∃ w2, w2 = (w1.setCell ⟨w.heap.size, 0, none⟩ (.slice A k c)).setCell ⟨w.heap.size, 1, none⟩ (.bool q) := ⟨_, rfl⟩
  have hb2 : Below w.heap.size w w2 := by rw [hw2]; exact ((HB0.out.trans (hb1.mono HB0.out.size)).setCell (Nat.le_refl _) _).setCell (Nat.le_refl _) _
  have hbx2 : w2.heap[w.heap.size]? = some (.cells #[.slice A k c, .bool q] 24 (0, 0)) := by rw [hw2]; exact set_blk (set_blk hbx1 _) _
  rw [← hw2]
  have z0 : w2.cell? ⟨w.heap.size, 0, none⟩ = some (.slice A k c) := cell_blk hbx2 rfl
  have z1 : w2.cell? ⟨w.heap.size, 1, none⟩ = some (.bool q) := cell_blk hbx2 rfl
  have hl2 := (HL.out.cut_to hkn).below hb2 hB
  have H2 : Hid (DB w B A k c q (l.take k) w2) := ⟨hb2, hbx2, hl2, Nat.le_trans hB hb2.size⟩
  clear hw2 hb1 hbx1 y0 y1 f0 f1 b0 b1 hb2 hbx2 hbx hl2 HL HF HB0 HBX hz0
  have HKL : Hid (k = (l.take k).length) := by have := HN0.out; show k = _; rw [List.length_take]; omega
  generalize l.take k = l at *
  have HWB := Lib.hid (fun u => domBegun_any u)
  have HL60 : Hid (l.length ≤ 60) := by have := HKL.out; show l.length ≤ 60; omega
  have HO := Lib.hid (HCY A k c l q b w2 B H2.out.doc H2.out.le (by have := HL60.out; omega))
  clear HCY
  go_upto_region 3 with (go_at_call 19; refine HO.out.mono ?_; rintro e w3 ⟨hb3, ⟨hce, rfl⟩ | ⟨hce, A', c', rfl, hsl⟩⟩)
  · have hce1 : (cpErr l b != 0) = true := by simpa using hce
    obtain ⟨w4, hw4⟩ : ∃ w4, w4 = w3.alloc (.cells #[.slice none 0 0, .bool false] 24) := ⟨_, rfl⟩
    have hx4 : w4.heap[w3.heap.size]? = some (.cells #[.slice none 0 0, .bool false] 24 (0, 0)) := by rw [hw4]; exact heap_alloc_new w3 _
    have H4 := Lib.hid ((H2.out.next hb3).next (show Below w3.heap.size w3 w4 by rw [hw4]; exact (Below.refl _ _).alloc (Nat.le_refl _) _))
    rw [← hw4]
    have HX4 := Lib.hid hx4
    have HW4 := Lib.hid (HWB.out w4)
    have HLT : Hid (w3.heap.size < w4.heap.size) := (Array.getElem?_eq_some_iff.1 hx4).1
    generalize cpErr l b = er at *
    clear hw4 hx4 hb3 HO z0 z1 hce HWB
    go_wp2_with (go_at_call 20; refine HW4.out.mono ?_; rintro e w5 ⟨rfl, hb5⟩; have e0 : w5.cell? ⟨w3.heap.size, 0, none⟩ = some (.slice none 0 0) := cell_blk ((hb5.block _ HLT.out).trans HX4.out) rfl)
    refine bodyPost_ret (v := .bool true) (by simp [results, Tryd.results4, go_sem]) rfl ⟨rfl, (H4.out.next hb5).below⟩
  · obtain ⟨hck, m, rfl, hml, hm0⟩ := cp_zero hce
    rw [Int.toNat_natCast] at hsl
    obtain ⟨t, hall⟩ := cp_all hck hml hm0 HL60.out
    have HALL := Lib.hid hall
    rw [Int.toNat_natCast]
    have hg4 := (H2.out.next hb3)
    obtain ⟨cc, hcc⟩ : ∃ cc, cpEnd l m = cc := ⟨_, rfl⟩
    rw [hcc] at hsl HALL
    rw [hcc]
    obtain ⟨w4, hw4⟩ : ∃ w4, w4 = w3.alloc (.cells #[.slice A' cc.length c', .bool q] 24) := ⟨_, rfl⟩
    have hb4 : Below w3.heap.size w3 w4 := by rw [hw4]; exact (Below.refl _ _).alloc (Nat.le_refl _) _
    have hx4 : w4.heap[w3.heap.size]? = some (.cells #[.slice A' cc.length c', .bool q] 24 (0, 0)) := by rw [hw4]; exact heap_alloc_new w3 _
    have H4 : Hid (DC w B A k c q l w3.heap.size A' cc.length c' cc w4) := ⟨(H2.out.next hb3).next hb4, hx4, (Sl.ltr hsl).below hb4 (Nat.le_refl _), Nat.lt_of_lt_of_le (Array.getElem?_eq_some_iff.1 H2.out.box).1 hb3.size⟩
    rw [← hw4]
    have HML : Hid (m < l.length) := hml
    clear hw4 hx4 hb4 hg4 hb3 HO z0 z1 hall hck hml hm0 hsl hcc hce
    have hkl := HKL.out
    subst hkl
    have z0 := H4.out.db.c0
    have z1 := H4.out.db.c1
    have n0 := H4.out.n0
    have n1 := H4.out.n1
    have i1 : (0 : Int) ≤ (m : Int) := by omega
    have i2 : (m : Int) < (l.length : Int) := by have := HML.out; omega
    have i3 : (0 : Int) ≤ (l.length : Int) := by omega
    have i4 : (l.length : Int) ≤ (cc.length : Int) := by have := HALL.out.len; omega
    have HT1 := Lib.hid (textOf_any A l.length c l q m w4 B H4.out.db.doc H4.out.db.le)
    rw [HALL.out.txt] at HT1
    go_upto_region 8 with (go_at_call 21; refine HT1.out.mono ?_; rintro e w5 ⟨rfl, hb5⟩)
    have H5 := Lib.hid (H4.out.next hb5)
    have HT2 := Lib.hid (textOf_any A' cc.length c' cc q (l.length : Nat) w5 w3.heap.size H5.out.now (Nat.le_of_lt H5.out.lt))
    rw [HALL.out.txt2] at HT2
    clear z0 z1 n0 n1 hb5 HT1 H4
    have n0 := H5.out.n0
    have n1 := H5.out.n1
    go_upto_region 9 with (go_at_call 21; refine HT2.out.mono ?_; rintro e w6 ⟨rfl, hb6⟩)
    have H6 := Lib.hid (H5.out.next hb6)
    clear n0 n1 hb6 HT2 H5
    have n0 := H6.out.n0
    have n1 := H6.out.n1
    go_upto_region 10 with fail
    obtain ⟨w7, hw7⟩ : ∃ w7, w7 = w6.alloc (.cells #[.slice A' cc.length c', .bool q] 24) := ⟨_, rfl⟩
    have hb7 : Below w6.heap.size w6 w7 := by rw [hw7]; exact (Below.refl _ _).alloc (Nat.le_refl _) _
    have hx7 : w7.heap[w6.heap.size]? = some (.cells #[.slice A' cc.length c', .bool q] 24 (0, 0)) := by rw [hw7]; exact heap_alloc_new w6 _
    rw [← hw7]
    have HB7 := Lib.hid hb7
    have HX7 := Lib.hid hx7
    have H7 := Lib.hid (H6.out.next hb7)
    clear n0 n1 hw7 hb7
    have n0 := H7.out.n0
    have o0 := cell_blk (i := 0) hx7 rfl
    have of := free_blk (i := 0) hx7
    have i5 : (l.length : Int) ≤ (c' : Int) := by have := H7.out.now.hc; omega
    have i6 : l.length ≤ c' := by omega
    clear hx7
    go_upto_region 11 with fail
    obtain ⟨w8, hw8⟩ : ∃ w8, w8 = w7.setCell ⟨w6.heap.size, 0, none⟩ (.slice A' l.length c') := ⟨_, rfl⟩
    have hb8 : Below w6.heap.size w6 w8 := by rw [hw8]; exact HB7.out.setCell (p := ⟨w6.heap.size, 0, none⟩) (Nat.le_refl _) _
    have hx8 : w8.heap[w6.heap.size]? = some (.cells #[.slice A' l.length c', .bool q] 24 (0, 0)) := by rw [hw8]; exact set_blk HX7.out _
    rw [← hw8]
    have H8 := Lib.hid (H6.out.next hb8)
    clear n0 o0 of hw8 hb8 HX7 HB7 H7 i5 i6
    have z0 := H8.out.db.c0
    have z1 := H8.out.db.c1
    have o0 := cell_blk (i := 0) hx8 rfl
    have o1 := cell_blk (i := 1) hx8 rfl
    have HSD := Lib.hid (sameDoc_same A' l.length c' A c l q w8 w8.heap.size (by
      have h := H8.out.now.cut_to HALL.out.len
      rw [HALL.out.old] at h
      exact h.up (Nat.le_of_lt H8.out.lt)) (H8.out.db.doc.up H8.out.db.le) (Nat.le_refl _))
    go_upto_region 13 with (go_at_call 22; refine HSD.out.mono ?_; rintro e w9 ⟨rfl, hb9⟩)
    have H9 := Lib.hid (H8.out.next hb9)
    clear z0 z1 o0 o1 hx8 hb9 HSD H8 H6 i3 i4
    obtain ⟨bb, o, rfl, hd⟩ := doc_at H9.out.db.doc (by have := HML.out; omega)
    obtain ⟨x, hx⟩ := get_some HML.out
    obtain ⟨_, _, _, _, _, _, _, _, _, _, _, k4, _⟩ := hd.at_ m x hx
    have hpx : parD l m = x.parent := parD_at hx
    have z0 := H9.out.db.c0
    clear hd hx
    rcases HALL.out.fin with h1 | ⟨p, l2, hp, hpl, hput, hg3, hlk⟩
    · rw [← hpx, h1] at k4
      have HSM : Hid (∀ u, Below w9.heap.size w9 u → Calls Tryd.prog 23 #[.agg #[.slice A' cc.length c', .bool q], .agg #[.slice (some ⟨bb, o, none⟩) l.length c, .bool q]] u fun e' w' => e' = .returned (.bool true) ∧ Below u.heap.size u w') := fun u hb => by
        obtain ⟨f, hf⟩ := HALL.out.like0
        have h := H9.out.next hb
        exact same_true2 A' cc.length c' cc (some ⟨bb, o, none⟩) l.length c l q u u.heap.size (h.now.up (Nat.le_of_lt h.lt)) (h.db.doc.up h.db.le) (Nat.le_refl _) HALL.out.good2 HALL.out.good f hf
      have HW := Lib.hid (HWB.out w9)
      clear h1 hpx
      go_wp2_with (first
        | (go_at_call 20; refine HW.out.mono ?_; rintro e w10 ⟨rfl, hb10⟩; have H10 := Lib.hid (H9.out.next hb10); have y0 := H10.out.db.c0; have y1 := H10.out.db.c1; have y2 := H10.out.n0; have y3 := H10.out.n1; have HS := Lib.hid (HSM.out w10 hb10); clear hb10)
        | (go_at_call 23; refine HS.out.mono ?_; rintro e w11 ⟨rfl, hb11⟩))
      refine bodyPost_ret (v := .bool true) (by simp [results, Tryd.results4, go_sem]) rfl ⟨rfl, (H10.out.next hb11).db.below⟩
    · rw [← hpx, hp] at k4
      have j1 : (0 : Int) ≤ (p : Int) := by omega
      have HPUT := Lib.hid hput
      have HG3 := Lib.hid hg3
      have HLK := Lib.hid hlk
      have HPL : Hid (p < l.length) := hpl
      clear hpx hp hput hg3 hlk hpl
      go_upto_region 16 with fail
      obtain ⟨ue, hue⟩ : ∃ ue, ue = w9.alloc (.cells #[.int .i64 5, .int .i64 (p : Int), .int .i64 (l.length : Int), .int .i64 (m : Int), .string ⟨#[]⟩, .string ⟨#[]⟩, .int .i64 0, .string ⟨#[]⟩, .slice none 0 0, .string ⟨#[]⟩, .int .i64 0, .slice none 0 0, .int .i64 6, .int .i64 (m : Int), .int .i64 0, .int .i64 0, .string ⟨#[]⟩, .string ⟨#[]⟩, .int .i64 0, .string ⟨#[]⟩, .slice none 0 0, .string ⟨#[]⟩, .int .i64 0, .slice none 0 0] 53) := ⟨_, rfl⟩
      have hbe : Below w9.heap.size w9 ue := by rw [hue]; exact (Below.refl _ _).alloc (Nat.le_refl _) _
      have hse : ue.heap.size = w9.heap.size + 1 := by rw [hue]; simp
      have hes : Sl tEdt ue (lt (w9.heap.size + 1)) (some ⟨w9.heap.size, 0, none⟩) 2 2 [cpIns p l.length m, cpRem m] := by
        rw [hue]
        exact Sl.fresh (n := 2) (w := w9) (B := w9.heap.size) 53 (cp_row (WalkArith.wf_i64 (by have := HPL.out; have := HL60.out; omega)) (WalkArith.wf_i64 (by have := HL60.out; omega)) (WalkArith.wf_i64 (by have := HML.out; have := HL60.out; omega))) (Nat.le_refl _) rfl (by decide)
      have HE := Lib.hid (H9.out.next hbe)
      have HAL := Lib.hid (all_any A' cc.length c' cc q (some ⟨w9.heap.size, 0, none⟩) 2 2 [cpIns p l.length m, cpRem m] ue (w9.heap.size + 1) ((HE.out.now.up (Nat.le_of_lt HE.out.lt)).up (by omega)) hes (by omega))
      unfold AlPost at HAL
      rw [HPUT.out] at HAL
      rw [hue] at HAL
      have HUE := Lib.hid hue
      have n0 := H9.out.n0
      have n1 := H9.out.n1
      clear hue hbe hse hes k4 z0
      go_upto_region 17 with (go_at_call 24; refine HAL.out.mono ?_; rintro e w10 ⟨hb10, ⟨h, _⟩ | ⟨_, A3, c3, rfl, hs3⟩⟩; · exact absurd rfl h)
      obtain ⟨w11, hw11⟩ : ∃ w11, w11 = w10.alloc (.cells #[.slice A3 l2.length c3, .bool q] 24) := ⟨_, rfl⟩
      have hb11 : Below w10.heap.size w10 w11 := by rw [hw11]; exact (Below.refl _ _).alloc (Nat.le_refl _) _
      have hx11 : w11.heap[w10.heap.size]? = some (.cells #[.slice A3 l2.length c3, .bool q] 24 (0, 0)) := by rw [hw11]; exact heap_alloc_new w10 _
      rw [← hw11]
      rw [← HUE.out] at hb10 hs3
      have H11 := Lib.hid ((HE.out.next hb10).next hb11)
      have HX11 := Lib.hid hx11
      have HLT : Hid (w10.heap.size < w11.heap.size) := (Array.getElem?_eq_some_iff.1 hx11).1
      have HS3 := Lib.hid ((Sl.ltr hs3).below hb11 (Nat.le_refl _))
      have HSM : Hid (∀ u, Below w11.heap.size w11 u → Calls Tryd.prog 23 #[.agg #[.slice A3 l2.length c3, .bool q], .agg #[.slice (some ⟨bb, o, none⟩) l.length c, .bool q]] u fun e' w' => e' = .returned (.bool true) ∧ Below u.heap.size u w') := fun u hb => by
        have h := H11.out.next hb
        have hz := HLT.out
        have hsz := hb.size
        exact same_true2 A3 l2.length c3 l2 (some ⟨bb, o, none⟩) l.length c l q u u.heap.size ((HS3.out.below hb (Nat.le_of_lt hz)).up (by omega)) (h.db.doc.up h.db.le) (Nat.le_refl _) HG3.out HALL.out.good 41 HLK.out
      have HW := Lib.hid (HWB.out w11)
      clear hw11 hb11 hx11 hb10 hs3 n0 n1 HAL
      go_wp2_with (first
        | (go_at_call 20; refine HW.out.mono ?_; rintro e w12 ⟨rfl, hb12⟩; have H12 := Lib.hid (H11.out.next hb12); have y0 := H12.out.db.c0; have y1 := H12.out.db.c1; have hx12 := (hb12.block _ HLT.out).trans HX11.out; have y2 := cell_blk (i := 0) hx12 rfl; have y3 := cell_blk (i := 1) hx12 rfl; have HS := Lib.hid (HSM.out w12 hb12); clear hb12 hx12)
        | (go_at_call 23; refine HS.out.mono ?_; rintro e w13 ⟨rfl, hb13⟩))
      refine bodyPost_ret (v := .bool true) (by simp [results, Tryd.results4, go_sem]) rfl ⟨rfl, (H12.out.next hb13).db.below⟩
end Go.Proofs.YtcnogokemilhnaaDoor
