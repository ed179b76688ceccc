/-
Forms: the walks of Owner, and of dom.Attr of an element.
-/
import Derived.Test.YtpbngckplbnahaaGreatDoorFormCtrl
namespace Go.Proofs.YtpbngckplbnahaaGreatDoor
open Go.RowKit Go.Cl
attribute [local go_sem ↓] Go.wp_at_zero Go.wp_at_succ

/-- What Owner hands back. -/
def OwnPost (w : World) (l : List Nd) (nn : Int) (e : Ending) (w' : World) : Prop :=
  Below w.heap.size w w' ∧ ((ctrlE l nn (⟨#[32, 105, 110, 112, 117, 116, 32, 116, 101, 120, 116, 97, 114, 101, 97, 32, 115, 101, 108, 101, 99, 116, 32, 98, 117, 116, 116, 111, 110, 32]⟩ : ByteArray) ≠ 0 ∧ e = .returned (.tuple #[.int .i64 0, .bool false, .int .i64 (ctrlE l nn (⟨#[32, 105, 110, 112, 117, 116, 32, 116, 101, 120, 116, 97, 114, 101, 97, 32, 115, 101, 108, 101, 99, 116, 32, 98, 117, 116, 116, 111, 110, 32]⟩ : ByteArray))])) ∨
    (ctrlE l nn (⟨#[32, 105, 110, 112, 117, 116, 32, 116, 101, 120, 116, 97, 114, 101, 97, 32, 115, 101, 108, 101, 99, 116, 32, 98, 117, 116, 116, 111, 110, 32]⟩ : ByteArray) = 0 ∧ e = .returned (.tuple #[.int .i64 (max (ownerF l (preR l 0) nn) 0), .bool (decide (0 ≤ ownerF l (preR l 0) nn)), .int .i64 0])))
set_option maxRecDepth 100000 in
set_option maxHeartbeats 4000000 in
theorem ownerD_any (A : Option Addr) (n c : Nat) (l : List Nd) (q : Bool) (nn : Int) (w : World) (B : Nat) (hl : Sl tNd w (lt B) A n c l) (hB : B ≤ w.heap.size) (hE : Env w) (hnn : (Lit.int .i64 nn).wf = true) :
    Calls Tryz.prog 22 #[.agg #[.slice A n c, .bool q], .int .i64 nn] w (OwnPost w l nn) := by
  obtain ⟨wa, hwa⟩ : ∃ wa, wa = w.alloc (.cells #[.slice A n c, .bool q] 29) := ⟨_, rfl⟩
  have hxd : wa.heap[w.heap.size]? = some (.cells #[.slice A n c, .bool q] 29 (0, 0)) := by rw [hwa]; exact heap_alloc_new w _
  have hba : Below w.heap.size w wa := by rw [hwa]; exact balloc (Below.refl _ _) _
  have x0 := cell_blk (i := 0) hxd rfl
  have x1 := cell_blk (i := 1) hxd rfl
  have HBA := Lib.hid hba
  have HCT := Lib.hid (control_f A n c l q nn (⟨#[32, 105, 110, 112, 117, 116, 32, 116, 101, 120, 116, 97, 114, 101, 97, 32, 115, 101, 108, 101, 99, 116, 32, 98, 117, 116, 116, 111, 110, 32]⟩ : ByteArray) wa B (hl.below hba hB) (Nat.le_trans hB hba.size) (hE.below hba) (by decide) hnn)
  clear hl hB hE hba hxd
  go_enter Tryz.func22, Tryz.ntmps22
  go_upto_region 1 with fail
  rw [← hwa]
  clear hwa
  by_cases hc : ctrlE l nn (⟨#[32, 105, 110, 112, 117, 116, 32, 116, 101, 120, 116, 97, 114, 101, 97, 32, 115, 101, 108, 101, 99, 116, 32, 98, 117, 116, 116, 111, 110, 32]⟩ : ByteArray) = 0
  · obtain ⟨hck, i, rfl, hi⟩ := ctrl_zero hc
    have T := tree_of hck
    have hK : Known l (preR l 0) := fun x hx => by obtain ⟨y, e, hy, _⟩ := T.all_chain.2.2 x hx; exact ⟨y, e, hy⟩
    have HC := Lib.hid hc
    have HP := Lib.hid (show ∀ w', Below w.heap.size w w' → OwnPost w l (i : Int) (.returned (.tuple #[.int .i64 (max (ownerF l (preR l 0) (i : Int)) 0), .bool (decide (0 ≤ ownerF l (preR l 0) (i : Int))), .int .i64 0])) w' from fun w' h => ⟨h, .inr ⟨hc, rfl⟩⟩)
    have HOW := Lib.hid (fun V B' F O m k (h : Fm V B' F A n c q O m k l (preR l 0)) => owner_f T h hK hi)
    clear hck T hK hc hi
    generalize ownerF l (preR l 0) (i : Int) = ow at *
    go_upto_region 4 with (go_at_call 25; refine HCT.out.mono ?_; rintro e w1 ⟨hb1, F, rfl, hF1, hF2, hfm⟩; rw [HC.out])
    obtain ⟨Bf, O, m, k, hfm⟩ := hfm HC.out
    have HB1 := Lib.hid hb1
    have HO1 := Lib.hid (HOW.out _ _ _ _ _ _ hfm)
    clear hb1 hF1 hF2 hfm
    go_wp2_with (go_at_call 28; refine HO1.out.mono ?_; rintro e w2 ⟨rfl, hb2⟩)
    go_ret3
    exact HP.out _ (bst HBA.out (bst HB1.out hb2))
  · have HC := Lib.hid hc
    have HP := Lib.hid (show ∀ w', Below w.heap.size w w' → OwnPost w l nn (.returned (.tuple #[.int .i64 0, .bool false, .int .i64 (ctrlE l nn (⟨#[32, 105, 110, 112, 117, 116, 32, 116, 101, 120, 116, 97, 114, 101, 97, 32, 115, 101, 108, 101, 99, 116, 32, 98, 117, 116, 116, 111, 110, 32]⟩ : ByteArray))])) w' from fun w' h => ⟨h, .inl ⟨hc, rfl⟩⟩)
    have k1 : (ctrlE l nn (⟨#[32, 105, 110, 112, 117, 116, 32, 116, 101, 120, 116, 97, 114, 101, 97, 32, 115, 101, 108, 101, 99, 116, 32, 98, 117, 116, 116, 111, 110, 32]⟩ : ByteArray) != 0) = true := by simpa using hc
    clear hc
    go_upto_region 2 with (go_at_call 25; refine HCT.out.mono ?_; rintro e w1 ⟨hb1, F, rfl, hF1, hF2, hfm⟩; clear hfm)
    have HB1 := Lib.hid hb1
    clear hb1 hF1 hF2
    generalize ctrlE l nn (⟨#[32, 105, 110, 112, 117, 116, 32, 116, 101, 120, 116, 97, 114, 101, 97, 32, 115, 101, 108, 101, 99, 116, 32, 98, 117, 116, 116, 111, 110, 32]⟩ : ByteArray) = ce at *
    go_wp2_with fail
    go_ret3
    exact HP.out _ (bst HBA.out HB1.out)

set_option maxRecDepth 100000 in
set_option maxHeartbeats 4000000 in
/-- dom.Attr of an element of a right document. -/
theorem attrEl_any (A : Option Addr) (n c : Nat) (l : List Nd) (q : Bool) (m : Nat) (x : Nd) (nm : ByteArray) (w : World) (B : Nat) (hl : Sl tNd w (lt B) A n c l) (hB : B ≤ w.heap.size) (hc : checkD l = 0) (hx : l[m]? = some x) (hk : x.kind = 2) :
    Calls Tryz.prog 24 #[.agg #[.slice A n c, .bool q], .int .i64 (m : Int), .string nm] w fun e w' => (∃ b, e = .returned (.tuple #[.string (ofA x.attrs nm), .bool b, .int .i64 0])) ∧ Below w.heap.size w w' := by
  obtain ⟨w0, hw0⟩ : ∃ w0, w0 = w.alloc (.cells #[.slice A n c, .bool q] 29) := ⟨_, rfl⟩
  have hbx : w0.heap[w.heap.size]? = some (.cells #[.slice A n c, .bool q] 29 (0, 0)) := by rw [hw0]; exact heap_alloc_new w _
  have hb0 : Below w.heap.size w w0 := by rw [hw0]; exact (Below.refl _ _).alloc (Nat.le_refl _) _
  have hml := (List.getElem?_eq_some_iff.1 hx).1
  have hask : askS l (m : Int) = 0 := by unfold askS; rw [if_neg (by rw [hc]; simp), if_neg (by omega)]
  have HA := Lib.hid (ask_any A n c l q (m : Int) w0 B (hl.below hb0 hB) (Nat.le_trans hB hb0.size))
  rw [hask] at HA
  obtain ⟨b, o, rfl, hd⟩ := doc_at (hl.below hb0 hB) (by have := hl.hn; omega)
  have HD := Lib.hid (fun (W : World) (hW : Below w0.heap.size w0 W) => (hd.below hW (Nat.le_trans hB hb0.size)).at_ m x hx)
  have HBX := Lib.hid hbx
  have HB0 := Lib.hid hb0
  have HBW : Hid (B ≤ w0.heap.size) := Nat.le_trans hB hb0.size
  have i1 : (0 : Int) ≤ (m : Int) := by omega
  have i2 : (m : Int) < (n : Int) := by have := hl.hn; omega
  have b0 := cell_blk (i := 0) hbx rfl
  have b1 := cell_blk (i := 1) hbx rfl
  have hk2 : (x.kind != 2) = false := by rw [hk]; decide
  clear hbx hb0 hml hask hd hl hB hc hx hk
  go_enter Tryz.func24, Tryz.ntmps24
  go_upto_region 1 with fail
  rw [← hw0]
  clear hw0
  go_upto_region 2 with (go_at_call 55; refine HA.out.mono ?_; rintro e w1 ⟨rfl, hb1⟩)
  have hbx1 := (hb1.block _ (Array.getElem?_eq_some_iff.1 HBX.out).1).trans HBX.out
  have y0 := cell_blk (i := 0) hbx1 rfl
  have y1 := cell_blk (i := 1) hbx1 rfl
  obtain ⟨Aa, na, ca, Ak, nk, ck, hnat, d0, d1, d2, d3, d4, d5⟩ := HD.out w1 hb1
  have HSA := Lib.hid hnat.attrs
  have HB1 := Lib.hid (HB0.out.trans (hb1.mono HB0.out.size))
  have HF := Lib.hid (find_dom Aa na ca x.attrs nm w1 B hnat.attrs (Nat.le_trans HBW.out hb1.size))
  have HBX1 := Lib.hid hbx1
  clear hb1 hbx1 hnat b0 b1 d1 d3 d4 d5 HA HD
  rcases findA_is x.attrs nm with h1 | ⟨i, a, h1, ha⟩
  · have HR := Lib.hid (show ofA x.attrs nm = ⟨#[]⟩ from if_pos (by omega))
    rw [h1] at HF
    clear h1
    go_wp2_with (go_at_call 56; refine HF.out.mono ?_; rintro e w2 ⟨rfl, hb2⟩)
    go_ret3
    exact ⟨⟨false, by rw [HR.out]; rfl⟩, HB1.out.trans (hb2.mono HB1.out.size)⟩
  · have HR := Lib.hid (show ofA x.attrs nm = a.2 from by unfold ofA; rw [if_neg (by omega), h1, Int.toNat_natCast, ha]; rfl)
    rw [h1] at HF
    obtain ⟨b2, o2, rfl, hD, _, c2, _, _⟩ := da_cells HSA.out ha
    have j1 : (0 : Int) ≤ (i : Int) := by omega
    have j2 : (i : Int) < (na : Int) := by have := HSA.out.hn; have := (List.getElem?_eq_some_iff.1 ha).1; omega
    clear h1 ha
    go_wp2_with (go_at_call 56; refine HF.out.mono ?_; rintro e w2 ⟨rfl, hb2⟩; have hbx2 := (hb2.block _ (Array.getElem?_eq_some_iff.1 HBX1.out).1).trans HBX1.out; have z0 := cell_blk (i := 0) hbx2 rfl; have z2 := cell_be d2 hb2; have zc := cell_be c2 hb2; clear hbx2)
    go_ret3
    exact ⟨⟨true, by rw [HR.out]; rfl⟩, HB1.out.trans (hb2.mono HB1.out.size)⟩
end Go.Proofs.YtpbngckplbnahaaGreatDoor
