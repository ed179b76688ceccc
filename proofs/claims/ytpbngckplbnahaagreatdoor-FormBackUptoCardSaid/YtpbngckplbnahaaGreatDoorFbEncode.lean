/-
strings.Builder's Write: a row of bytes is written.
-/
import Derived.Test.YtpbngckplbnahaaGreatDoorBuilder
import Derived.Test.YtpbngckplbnahaaGreatDoorFbLaw
import Derived.Test.YtpbngckplbnahaaGreatDoorChars
import Derived.Test.YtpbngckplbnahaaGreatDoorRegionW
namespace Go.Proofs.YtpbngckplbnahaaGreatDoor
open Go.RowKit Go.Cl
theorem copy_far (B b : Nat) (bs : List Value) (w : World) (h : Bld B b bs w) :
    Calls Tryz.prog 83 #[.pointer (some ⟨b, 0, none⟩)] w fun e w' => e = .returned (.tuple #[]) ∧ (Lib.BuilderAt 91 5 B b (.pointer (some ⟨b, 0, none⟩)) bs w' ∧ Below B w w' ∧ Spares w w') ∧ ∀ k, k ≠ b → w'.heap[k]? = w.heap[k]? := by
  rcases h with h | h
  · refine (copy_fresh b w h.cell0 h.shape h.frozen0).mono ?_
    rintro e w' ⟨rfl, rfl⟩
    exact ⟨rfl, ⟨h.used _, (Below.refl B w).setCell (p := ⟨b, 0, none⟩) h.1 _, Spares.set h.2.choose_spec.1 _⟩, fun k hk => Below.heap_setCell _ _ _ _ hk⟩
  · refine (copy_used b w h.cell0).mono ?_
    rintro e w' ⟨rfl, rfl⟩
    exact ⟨rfl, ⟨h, Below.refl B _, Spares.refl _⟩, fun _ _ => rfl⟩
set_option maxRecDepth 100000 in
theorem write_sp (B b p c : Nat) (bs ys : List Value) (w : World) (h : Bld B b bs w) (hlen : bs.length + ys.length ≤ 140737488355328) (hBw : B ≤ w.heap.size)
    (hpb : p ≠ b) (hy : ∀ (j : Nat) u, ys[j]? = some u → w.cell? ⟨p, j, none⟩ = some u) (hone : ∀ u ∈ ys, u.oneCell' = true) :
    Calls Tryz.prog 93 #[.pointer (some ⟨b, 0, none⟩), .slice (some ⟨p, 0, none⟩) ys.length c] w fun e w' => e = .returned (.tuple #[.int .i64 ys.length, .nilIface]) ∧ (Bld B b (bs ++ ys) w' ∧ Below B w w' ∧ Spares w w') := by
  obtain ⟨i0, hi, hz0, hz1, hz2⟩ := info_parts Tryz.Builder_Extra_169.infoByte
  go_enter Tryz.func93, Tryz.ntmps93
  go_wp2_with fail
  refine (copy_far B b bs _ h).mono ?_
  rintro e w1 ⟨rfl, ⟨h1, hb1, hs1⟩, hfar⟩
  have HFAR := Lib.hid hfar
  clear hfar
  obtain ⟨hB, v, hbk, hown, hne⟩ := h1
  have c0 : w1.cell? ⟨b, 0, none⟩ = some (.pointer (some ⟨b, 0, none⟩)) := by rw [Lib.cell_of_heap hbk]; rfl
  have c1 : w1.cell? ⟨b, 1, none⟩ = some v := by rw [Lib.cell_of_heap hbk]; rfl
  go_wp2_with (at_builtin; refine wpList_append_own _ rfl _ _ 52 rfl B 5 i0 (.int .u8 0) 1 1 Tryz.underlying52 hi hz0 hz1 hz2 rfl (by decide) _ _ _ rfl hown ⟨p, 0, none⟩ ys.length c ys rfl (by omega) ?c1 ?c2 ?c3 ?c4 ?c5 ?_)
  case c1 =>
    intro j u hj
    have h9 : w1.cell? ⟨p, j, none⟩ = some u := (World.cell?_of_block (a := ⟨p, j, none⟩) (HFAR.out p hpb)).trans (hy j u hj)
    rw [← h9]
    unfold Addr.add
    split
    · rename_i h; subst h; rfl
    · simp
  case c2 => exact hone
  case c3 => unfold maxLen; omega
  case c4 => omega
  case c5 => have := hb1.size; omega
  intro v' w2 hown' hgrow _
  have hlt : b < w1.heap.size := by
    rcases Nat.lt_or_ge b w1.heap.size with h' | h'
    · exact h'
    · simp [Array.getElem?_eq_none h'] at hbk
  have hb2 : w2.heap[b]? = some (.cells #[.pointer (some ⟨b, 0, none⟩), v] 91 (0, 0)) := by
    rw [hgrow.block b hlt (fun e => hne e.symm)]
    exact hbk
  have d0 : w2.cell? ⟨b, 0, none⟩ = some (.pointer (some ⟨b, 0, none⟩)) := by rw [Lib.cell_of_heap hb2]; rfl
  have d1 : w2.cell? ⟨b, 1, none⟩ = some v := by rw [Lib.cell_of_heap hb2]; rfl
  have f1 : w2.frozen? ⟨b, 1, none⟩ = false := Lib.frozen_of_heap hb2 1
  obtain ⟨ao, n', cap, rfl⟩ : ∃ ao n' cap, v' = .slice ao n' cap := by
    rcases hown'.2 with ⟨hv, _⟩ | ⟨g, cap, cur, hv, _⟩
    · exact ⟨_, _, _, hv⟩
    · exact ⟨_, _, _, hv⟩
  go_wp2_with fail
  go_ret2
  refine ⟨rfl, Or.inr ?_, ?_, hs1.trans ((Spares.own hown hgrow).trans (Spares.set hb2 _))⟩
  · exact Lib.BuilderAt.put (T := 91) (e := 5) hB hb2 (bs' := bs ++ ys) (by simpa using hown') Tryz.Builder_Extra_169.neB5
  · exact (hb1.grown hgrow (by have := hb1.size; omega) (fun k hk => (hown.lt k hk).1)).setCell (p := ⟨b, 1, none⟩) hB _
end Go.Proofs.YtpbngckplbnahaaGreatDoor

/-
Forms as text: the walk of encode.
-/
namespace Go.Proofs.YtpbngckplbnahaaGreatDoor
open Go.RowKit Go.Cl
attribute [local go_sem ↓] Go.wp_at_zero Go.wp_at_succ
theorem fbEnc1_len : ∀ n : Nat, n < 256 → (fbEnc1 n.toUInt8).length ≤ 3 := by decide +kernel
theorem fbEncB_len (s : List UInt8) : (fbEncB s).length ≤ 3 * s.length := by
  unfold fbEncB
  induction s with
  | nil => simp
  | cons x r ih =>
    have h := fbEnc1_len x.toNat x.toNat_lt
    rw [fb_u8] at h
    rw [List.flatMap_cons, List.length_append, List.length_cons]
    omega
set_option maxRecDepth 100000 in
theorem fb_plain_at : ∀ n : Nat, n < 256 → (0 ≤ Lib.indexByte fbPlain n.toUInt8) = (fbPlain.contains n.toUInt8 = true) := by
  have h : ∀ n : Nat, n < 256 → decide (0 ≤ Lib.indexByte fbPlain n.toUInt8) = fbPlain.contains n.toUInt8 := by decide +kernel
  intro n hn
  have := h n hn
  rw [← this]
  simp
theorem fb_next {B E : Nat} {l : List Value} {w w' : World} (h : Bld B E l w) (hb : Below w.heap.size w w') : Bld B E l w' := by
  have hat : ∀ p, Lib.BuilderAt 91 5 B E p l w → Lib.BuilderAt 91 5 B E p l w' := fun p h => by
    obtain ⟨hB, v, hbk, hown, hne⟩ := h
    refine ⟨hB, v, (hb.block E (Array.getElem?_eq_some_iff.1 hbk).1).trans hbk, ⟨hown.1, ?_⟩, hne⟩
    rcases hown.2 with h4 | ⟨g, cap, cur, e, hg, hc, r⟩
    · exact Or.inl h4
    · exact Or.inr ⟨g, cap, cur, e, hg, (hb.block g (Array.getElem?_eq_some_iff.1 hc).1).trans hc, r⟩
  rcases h with h | h
  · exact Or.inl (hat _ h)
  · exact Or.inr (hat _ h)
theorem fb_lt {B b : Nat} {l : List Value} {w : World} (h : Bld B b l w) : b < w.heap.size := by
  rcases h with h | h <;> exact (Array.getElem?_eq_some_iff.1 h.2.choose_spec.1).1
abbrev hexBU : ByteArray := (⟨#[48, 49, 50, 51, 52, 53, 54, 55, 56, 57, 65, 66, 67, 68, 69, 70]⟩ : ByteArray)
theorem fb_and : ∀ n : Nat, n < 256 → bits .and .u8 (n : Int) 15 = (n : Int) % 16 := by decide +kernel
theorem fb_hex_at (m : Nat) (h : m < hexBU.size) : hexBU[m] = hexU[m]?.getD 0 := by
  have h2 : m < hexU.length := h
  rw [List.getElem?_eq_getElem h2]
  rfl
set_option maxRecDepth 100000 in
theorem fbEncode_any (s : ByteArray) (w : World) (hs : s.size ≤ 100000000) : Calls Tryz.prog 47 #[.string s] w fun e w' => e = .returned (.string ⟨(fbEncB s.data.toList).toArray⟩) ∧ Below w.heap.size w w' := by
  have hlen : s.data.toList.length = s.size := rfl
  go_enter Tryz.func47, Tryz.ntmps47
  go_upto_region 3 with fail
  go_loopw [8] (fun i wr => ∃ k : Nat, k ≤ s.size ∧ i = .int .i64 (k : Int) ∧ Hid (Bld w.heap.size w.heap.size (Lib.byteCells (fbEncB (s.data.toList.take k))) wr) ∧ Hid (Below w.heap.size w wr)) (fun i _ => s.size - (intOf i).toNat)
  case atStart => exact ⟨0, Nat.zero_le _, rfl, Lib.hid (bld_new w), Lib.hid ((Below.refl _ _).alloc (Nat.le_refl _) _)⟩
  case round =>
    obtain ⟨k, hk, rfl, HB, HW⟩ := hrel
    by_cases hks : k < s.size
    · have i5 : (0 : Int) ≤ (k : Int) := by omega
      have i6 : (k : Int) < (s.size : Int) := by omega
      have hg : s.data.toList[k]? = some s[k] := by rw [Array.getElem?_toList]; exact Array.getElem?_eq_getElem _
      have HTK := Lib.hid (show fbEncB (s.data.toList.take (k + 1)) = fbEncB (s.data.toList.take k) ++ fbEnc1 s[k] from by unfold fbEncB; rw [take_snoc hg, List.flatMap_append, List.flatMap_cons, List.flatMap_nil, List.append_nil])
      have HLN : Hid ((fbEncB (s.data.toList.take k)).length ≤ 300000000) := by
        have h := fbEncB_len (s.data.toList.take k)
        rw [List.length_take] at h
        show _ ≤ _
        omega
      go_upto_region 7 with fail
      generalize hu : s[k] = u at *
      have hu8 := u.toNat_lt
      have HPL := Lib.hid (fb_plain_at u.toNat hu8)
      rw [fb_u8] at HPL
      have HI := Lib.hid ((Tryz.strings_IndexByte ⟨fbPlain.toArray⟩ (u.toNat : Int) wr).mono (R' := fun e w' => ∃ r : Int, e = .returned (.int .i64 r) ∧ w' = wr ∧ decide (0 ≤ r) = fbPlain.contains u) fun e w' h => ⟨_, h.1, h.2, by
        show decide (0 ≤ Lib.indexByte fbPlain (u.toNat : Int).toNat.toUInt8) = _
        rw [Int.toNat_natCast, fb_u8]
        have := HPL.out
        cases hc : fbPlain.contains u <;> rw [hc] at this <;> simp at this <;> simp [this]⟩)
      by_cases hp : fbPlain.contains u = true
      · have HE := Lib.hid (show fbEnc1 u = [u] from by unfold fbEnc1; rw [if_pos hp])
        have HWB := Lib.hid (writeByte_any w.heap.size w.heap.size _ (u.toNat : Int) wr HB.out (by rw [Lib.byteCells_length]; have := HLN.out; omega) HW.out.size)
        have HP := Lib.hid hp
        clear hp
        go_upto_region 8 with (go_at_call 91; refine HI.out.mono ?_; rintro e w2 ⟨r, rfl, rfl, hr⟩; rw [HP.out] at hr; have hr0 : (0 : Int) ≤ r := of_decide_eq_true hr)
        go_wp2_with (go_at_call 92; refine HWB.out.mono ?_; rintro e w3 ⟨rfl, hb3, hw3⟩)
        go_roundw
        case rel => exact ⟨k + 1, by omega, by go_num, Lib.hid (by rw [HTK.out, HE.out, Lib.byteCells_append]; exact hb3), Lib.hid (HW.out.trans hw3)⟩
        case measure => simp [intOf]; omega
      · have hp0 : fbPlain.contains u = false := by simpa using hp
        have HP := Lib.hid hp0
        by_cases h32 : u = 32
        · have HE := Lib.hid (show fbEnc1 u = [43] from by rw [h32]; decide +kernel)
          have HWB := Lib.hid (writeByte_any w.heap.size w.heap.size _ 43 wr HB.out (by rw [Lib.byteCells_length]; have := HLN.out; omega) HW.out.size)
          have hu32 : ((u.toNat : Int) == 32) = true := by rw [h32]; rfl
          clear hp hp0 h32
          go_wp2_with (first | (go_at_call 91; refine HI.out.mono ?_; rintro e w2 ⟨r, rfl, hw2, hr⟩; obtain rfl : w2 = wr := hw2; rw [HP.out] at hr; have hr0 : ¬ (0 : Int) ≤ r := of_decide_eq_false hr) | (go_at_call 92; refine HWB.out.mono ?_; rintro e w3 ⟨rfl, hb3, hw3⟩))
          go_roundw
          case rel => exact ⟨k + 1, by omega, by go_num, Lib.hid (by rw [HTK.out, HE.out, Lib.byteCells_append]; exact hb3), Lib.hid (HW.out.trans hw3)⟩
          case measure => simp [intOf]; omega
        · skip
          have va := fb_and u.toNat hu8
          have p1 : ((u.toNat : Int) / 16).toNat < hexBU.size := by show _ < 16; omega
          have p2 : (bits .and .u8 (u.toNat : Int) 15).toNat < hexBU.size := by rw [va]; show _ < 16; omega
          have HE := Lib.hid (show fbEnc1 u = [37, hexBU[((u.toNat : Int) / 16).toNat]'p1, hexBU[(bits .and .u8 (u.toNat : Int) 15).toNat]'p2] from by
            unfold fbEnc1
            rw [if_neg hp, if_neg h32, fb_hex_at _ p1, fb_hex_at _ p2, va, show ((u.toNat : Int) / 16).toNat = u.toNat / 16 by omega, show ((u.toNat : Int) % 16).toNat = u.toNat % 16 by omega])
          have i1 : (0 : Int) ≤ (u.toNat : Int) / 16 := by omega
          have i2 : (u.toNat : Int) / 16 < 16 := by omega
          have i3 : (0 : Int) ≤ bits .and .u8 (u.toNat : Int) 15 := by omega
          have i4 : bits .and .u8 (u.toNat : Int) 15 < 16 := by omega
          have hu32 : ((u.toNat : Int) == 32) = false := by
            rw [beq_eq_false_iff_ne]
            exact fun e => h32 (UInt8.toNat_inj.1 (show u.toNat = (32 : UInt8).toNat from by show u.toNat = 32; omega))
          clear hp hp0 h32 va
          go_upto_region 6 with (go_at_call 91; refine HI.out.mono ?_; rintro e w2 ⟨r, rfl, hw2, hr⟩; obtain rfl : w2 = wr := hw2; rw [HP.out] at hr; have hr0 : ¬ (0 : Int) ≤ r := of_decide_eq_false hr)
          refine wp_region_G (S := fun _ => True) (T := []) (by kernel_rfl) ?_
          have hS : (fun _ : World => True) w2.drew := trivial
          refine wpAnyG_pureW (i := 0) (v := ?_) rfl (by kernel_rfl) (by kernel_rfl) (by kernel_rfl) (fun _ _ _ h => h) (by kernel_rfl) ?_ ?_
          rotate_left
          · intro w'
            first | (go_simp; done) | (go_simp; with_reducible rfl)
          refine wpAnyG_pureW (i := 1) (v := ?_) rfl (by kernel_rfl) (by kernel_rfl) (by kernel_rfl) (fun _ _ _ h => h) (by kernel_rfl) ?_ ?_
          rotate_left
          · intro w'
            first | (go_simp; done) | (go_simp; with_reducible rfl)
          refine wpAnyG_pureW (i := 2) (v := ?_) rfl (by kernel_rfl) (by kernel_rfl) (by kernel_rfl) (fun _ _ _ h => h) (by kernel_rfl) ?_ ?_
          rotate_left
          · intro w'
            first | (go_simp; done) | (go_simp; with_reducible rfl)
          refine wpAnyG_pureW (i := 3) (v := ?_) rfl (by kernel_rfl) (by kernel_rfl) (by kernel_rfl) (fun _ _ _ h => h) (by kernel_rfl) ?_ ?_
          rotate_left
          · intro w'
            first | (go_simp; done) | (go_simp; with_reducible rfl)
          refine wpAnyG_pureW (i := 4) (v := ?_) rfl (by kernel_rfl) (by kernel_rfl) (by kernel_rfl) (fun _ _ _ h => h) (by kernel_rfl) ?_ ?_
          rotate_left
          · intro w'
            first | (go_simp; done) | (go_simp; with_reducible rfl)
          refine wpAnyG_pureW (i := 5) (v := ?_) rfl (by kernel_rfl) (by kernel_rfl) (by kernel_rfl) (fun _ _ _ h => h) (by kernel_rfl) ?_ ?_
          rotate_left
          · intro w'
            first | (go_simp; done) | (go_simp; with_reducible rfl)
          refine wpAnyG_oneW (i := 6) (by kernel_rfl) rfl (by kernel_rfl) (fun K hK => ?_)
          go_simp
          refine hK.out _ _ (fun _ _ => trivial) ?_
          clear hK K
          refine wpAnyG_oneW (i := 7) (by kernel_rfl) rfl (by kernel_rfl) (fun K hK => ?_)
          go_simp
          generalize hxa : hexBU[((u.toNat : Int) / 16).toNat]'p1 = xa at *
          generalize hxb : hexBU[(bits .and .u8 (u.toNat : Int) 15).toNat]'p2 = xb at *
          clear hxa hxb p1 p2
          have hbw : Below w2.heap.size w2 (w2.alloc (.cells #[.int .u8 37, .int .u8 xa.toNat, .int .u8 xb.toNat] 5)).drew := ((Below.refl _ _).alloc (Nat.le_refl _) _).drew
          have HBD := Lib.hid (fb_next HB.out hbw)
          have HWR := Lib.hid (write_sp w.heap.size w.heap.size w2.heap.size 3 _ (Lib.byteCells [37, xa, xb]) _ HBD.out (by rw [Lib.byteCells_length]; have := HLN.out; show _ + 3 ≤ _; omega) (Nat.le_trans HW.out.size hbw.size) (fun e => by have := Lib.hid HB.out; have h1 := fb_lt HB.out; omega) (fun j v hj => by have h := cell_new w2 (Lib.byteCells [37, xa, xb]) 5 j v hj; rw [Nat.zero_add] at h; exact h) (fun v hv => by unfold Lib.byteCells at hv; obtain ⟨y, _, rfl⟩ := List.mem_map.1 hv; rfl))
          have HW3 := Lib.hid (HW.out.trans (hbw.mono HW.out.size))
          go_at_call 93
          refine HWR.out.mono ?_
          rintro e w3 ⟨rfl, hb3, hw3, _⟩
          go_wp2_with fail
          refine hK.out _ _ (fun _ _ => trivial) ?_
          clear hK K hS
          refine wpAnyG_done (by kernel_rfl) ?_ _
          go_wp2_with fail
          go_roundw
          case rel => exact ⟨k + 1, by omega, by go_num, Lib.hid (by rw [HTK.out, HE.out, Lib.byteCells_append]; exact hb3), Lib.hid (HW3.out.trans hw3)⟩
          case measure => simp [intOf]; omega
    · obtain rfl : k = s.size := by omega
      have hb := HB.out
      rw [List.take_of_length_le (by omega)] at hb
      have HS := Lib.hid (Tryz.Builder_String_any w.heap.size w.heap.size _ wr hb HW.out.size)
      clear hb
      go_wp2_with (go_at_call 45; refine HS.out.mono ?_; rintro e w3 ⟨rfl, hw3⟩)
      go_ret
      exact ⟨rfl, HW.out.trans hw3⟩
end Go.Proofs.YtpbngckplbnahaaGreatDoor
