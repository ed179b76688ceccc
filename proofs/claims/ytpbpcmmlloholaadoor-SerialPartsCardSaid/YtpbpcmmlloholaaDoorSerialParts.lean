/-
The walk of SerialParts.
-/
import Derived.Test.YtpbpcmmlloholaaDoorSerBegun
import Derived.Test.YtpbpcmmlloholaaDoorDocBox
namespace Go.Proofs.YtpbpcmmlloholaaDoor
open Go.RowKit Go.Cl
attribute [local go_sem ↓] Go.wp_at_zero Go.wp_at_succ

theorem htmlR_bad {l : List Nd} {z : Int} (h : (htmlR l z).2 ≠ 0) : (htmlR l z).1 = [] := by
  unfold htmlR at h ⊢
  split
  · rfl
  rename_i h1
  rw [if_neg h1] at h
  split
  · rfl
  rename_i h2
  rw [if_neg h2] at h
  exact (h rfl).elim
theorem htmlR_at {l : List Nd} (hc : checkD l = 0) {i : Nat} (hi : i < l.length) : htmlR l (i : Int) = (htmlN l (41 - upN l (i : Int)) i, 0) := by
  unfold htmlR
  rw [if_neg (by rw [hc]; simp), if_neg (by omega)]
theorem htmlR_ok {l : List Nd} {z : Int} (h : (htmlR l z).2 = 0) : checkD l = 0 ∧ ∃ i : Nat, z = (i : Int) ∧ i < l.length := by
  unfold htmlR at h
  split at h
  · rename_i h1
    exact (h1 h).elim
  rename_i h1
  split at h
  · cases h
  · exact ⟨by simpa using h1, z.toNat, by omega, by omega⟩
theorem pre_of {a b t : List UInt8} (h : a = b ++ t) : Lib.hasPrefix a b = true := List.isPrefixOf_iff_prefix.2 ⟨t, h.symm⟩
theorem suf_of {a b t : List UInt8} (h : a = t ++ b) : Lib.hasSuffix a b = true := List.isSuffixOf_iff_suffix.2 ⟨t, h.symm⟩
/-- What is written of an element begins and ends so. -/
theorem elem_ends (l : List Nd) (g : Int → List UInt8) (x : Nd) : Lib.hasPrefix (elemH l g x) ([60] ++ x.name.data.toList) = true ∧
    ((voidB x.name = true ∧ x.kids = []) → Lib.hasSuffix (elemH l g x) [62] = true) ∧
    (¬ (voidB x.name = true ∧ x.kids = []) → Lib.hasSuffix (elemH l g x) (x.kids.flatMap g ++ [60, 47] ++ x.name.data.toList ++ [62]) = true) := by
  refine ⟨pre_of (t := x.attrs.flatMap wrAttr ++ [62] ++ tailH l g x) (by unfold elemH; simp only [List.append_assoc]), fun h => ?_, fun h => ?_⟩
  · refine suf_of (t := [60] ++ x.name.data.toList ++ x.attrs.flatMap wrAttr) ?_
    unfold elemH tailH
    rw [if_pos h, List.append_nil]
  · refine suf_of (t := [60] ++ x.name.data.toList ++ x.attrs.flatMap wrAttr ++ [62] ++ (if nlB l x then [10] else [])) ?_
    unfold elemH tailH
    rw [if_neg h]
    simp only [List.append_assoc]
theorem kids_short {l : List Nd} {g : Int → List UInt8} {x : Nd} (hb : bareB x = true) (h : (nodeH l g x).length ≤ 10000000000) : (x.kids.flatMap g).length ≤ 10000000000 ∧ (x.kind ≠ 1 → x.kind ≠ 2 → x.kids = []) := by
  have hk : x.kind ≠ 1 → x.kind ≠ 2 → x.kids = [] := fun h1 h2 => by
    unfold bareB parentB at hb
    simp only [Bool.and_eq_true, Bool.or_eq_true, beq_iff_eq, List.isEmpty_iff] at hb
    rcases hb.2 with h3 | h3
    · rcases h3 with h3 | h3
      · exact (h1 h3).elim
      · exact (h2 h3).elim
    · exact h3
  refine ⟨?_, hk⟩
  by_cases h1 : x.kind = 1
  · unfold nodeH at h
    rwa [if_pos h1] at h
  by_cases h2 : x.kind = 2
  · unfold nodeH at h
    rw [if_neg h1, if_neg (by omega), if_neg (by omega), if_neg (by omega)] at h
    by_cases hv : voidB x.name = true ∧ x.kids = []
    · rw [hv.2]
      exact Nat.zero_le _
    · unfold elemH tailH at h
      rw [if_neg hv] at h
      simp only [List.length_append] at h
      omega
  · rw [hk h1 h2]
    exact Nat.zero_le _
theorem prefix_any (s p : ByteArray) (u : World) (h : Lib.hasPrefix s.data.toList p.data.toList = true) : Calls Tryd.prog 9 #[.string s, .string p] u fun e w' => e = .returned (.bool true) ∧ w' = u := by
  have := Tryd.strings_HasPrefix s p u
  rwa [h] at this
theorem suf_any (s p : ByteArray) (u : World) (hs : s.size ≤ 9223372036854775807) (h : Lib.hasSuffix s.data.toList p.data.toList = true) : Calls Tryd.prog 10 #[.string s, .string p] u fun e w' => e = .returned (.bool true) ∧ w' = u := by
  have := Tryd.strings_HasSuffix s p u hs
  rwa [h] at this
theorem mk_size (l : List UInt8) : (⟨l.toArray⟩ : ByteArray).size = l.length := List.size_toArray
set_option maxRecDepth 100000 in
set_option maxHeartbeats 8000000 in
theorem serialParts_walk (A : Option Addr) (n c : Nat) (l : List Nd) (q : Bool) (b : Int) (w : World) (B : Nat) (hl : Sl tNd w (lt B) A n c l) (hB : B ≤ w.heap.size) (_ : (Lit.int .i64 b).wf = true) (m : Int) (hm : maxAt w m) :
    Calls Tryd.prog 3 #[.agg #[.slice A n c, .bool q], .int .i64 b] w fun e w' => e = .returned (.bool true) ∧ Below w.heap.size w w' := by
  obtain ⟨w0, hw0⟩ : ∃ w0, w0 = w.alloc (.cells #[.slice A n c, .bool q] 24) := ⟨_, rfl⟩
  have hbx : w0.heap[w.heap.size]? = some (.cells #[.slice A n c, .bool q] 24 (0, 0)) := by rw [hw0]; exact heap_alloc_new w _
  have b0 : w0.cell? ⟨w.heap.size, 0, none⟩ = some (.slice A n c) := cell_blk hbx rfl
  have b1 : w0.cell? ⟨w.heap.size, 1, none⟩ = some (.bool q) := cell_blk hbx rfl
  have hb0 : Below w.heap.size w w0 := by rw [hw0]; exact (Below.refl _ _).alloc (Nat.le_refl _) _
  have hz0 : w0.heap.size = w.heap.size + 1 := by rw [hw0]; exact World.size_alloc w _
  have HB0 := Lib.hid hb0
  have HBX := Lib.hid hbx
  have HL := Lib.hid hl
  obtain ⟨k, hk, hkc, hkn, hk60⟩ : ∃ k : Nat, min (n : Int) 60 = (k : Int) ∧ k ≤ c ∧ k ≤ n ∧ k ≤ 60 := ⟨min n 60, by omega, by have := hl.hc; omega, by omega, by omega⟩
  have HF := Lib.hid (few_any A n c k q 60 w0 hk hkc)
  clear hb0 hl
  go_enter Tryd.func3, Tryd.ntmps3
  go_upto_region 1 with fail
  rw [← hw0]
  clear hw0
  go_upto_region 2 with (go_at_call 5; refine HF.out.mono ?_; rintro e w1 ⟨rfl, hb1⟩; have hbx1 : w1.heap[w.heap.size]? = some (.cells #[.slice A n c, .bool q] 24 (0, 0)) := (hb1.block _ (by omega)).trans HBX.out; have y0 : w1.cell? ⟨w.heap.size, 0, none⟩ = some (.slice A n c) := cell_blk hbx1 rfl; have y1 : w1.cell? ⟨w.heap.size, 1, none⟩ = some (.bool q) := cell_blk hbx1 rfl; have f0 := free_blk (i := 0) hbx1; have f1 := free_blk (i := 1) hbx1)
  obtain ⟨w2, hw2⟩ : ∃ w2, w2 = (w1.setCell ⟨w.heap.size, 0, none⟩ (.slice A k c)).setCell ⟨w.heap.size, 1, none⟩ (.bool q) := ⟨_, rfl⟩
  have hb2 : Below w.heap.size w w2 := by rw [hw2]; exact ((HB0.out.trans (hb1.mono HB0.out.size)).setCell (Nat.le_refl _) _).setCell (Nat.le_refl _) _
  have hbx2 : w2.heap[w.heap.size]? = some (.cells #[.slice A k c, .bool q] 24 (0, 0)) := by rw [hw2]; exact set_blk (set_blk hbx1 _) _
  rw [← hw2]
  have z0 : w2.cell? ⟨w.heap.size, 0, none⟩ = some (.slice A k c) := cell_blk hbx2 rfl
  have z1 : w2.cell? ⟨w.heap.size, 1, none⟩ = some (.bool q) := cell_blk hbx2 rfl
  have hl2 := (HL.out.cut_to hkn).below hb2 hB
  have H2 : Hid (DB w B A k c q (l.take k) w2) := ⟨hb2, hbx2, hl2, Nat.le_trans hB hb2.size⟩
  clear hw2 hb1 hbx1 y0 y1 f0 f1 b0 b1 hb2 hbx2 hbx hl2 HL HF HB0 HBX hz0
  generalize l.take k = l at *
  have HWB := Lib.hid (fun (u : World) (hu : Below w.heap.size w u) => serBegun_any u m (cell_be hm hu))
  have HTM := Lib.hid (fun (z : Int) (u : World) (hu : DB w B A k c q l u) => html_any A k c l q z u B m hu.doc hu.le (cell_be hm hu.below))
  have HH := Lib.hid (HTM.out b w2 H2.out)
  obtain ⟨S, hS⟩ : ∃ S : ByteArray, S = ⟨(htmlR l b).1.toArray⟩ := ⟨_, rfl⟩
  obtain ⟨er, her⟩ : ∃ er, er = (htmlR l b).2 := ⟨_, rfl⟩
  rw [← hS, ← her] at HH
  have HS0 := Lib.hid hS
  have HER := Lib.hid her
  clear hS her
  go_upto_region 3 with (go_at_call 6; refine HH.out.mono ?_; rintro e' w3 ⟨rfl, hb3⟩)
  have H3 := Lib.hid (H2.out.next hb3)
  clear hb3 HH z0 z1 H2
  by_cases hez : er = 0
  · subst hez
    obtain ⟨hck, i, rfl, hi⟩ := htmlR_ok HER.out.symm
    obtain ⟨x, hx⟩ : ∃ x, l[i]? = some x := get_some hi
    have G := good_of hck
    have T := tree_of hck
    have hup := (T.deep i hi).1
    obtain ⟨f, hf⟩ : ∃ f, 41 - upN l (i : Int) = f + 1 := ⟨40 - upN l (i : Int), by omega⟩
    have hR := htmlR_at hck hi
    have hS := HS0.out
    rw [hR, hf, htmlN_at hx] at hS
    have hsm := html_small G hi
    rw [hf, htmlN_at hx] at hsm
    have hkid : ∀ z ∈ x.kids, ∃ p : Nat, z = (p : Int) ∧ p < l.length ∧ htmlR l z = (htmlN l f z, 0) := fun z hz => by
      obtain ⟨p, rfl, hp, hpar⟩ := T.kid hi (by rw [kidsD_at hx]; exact hz)
      have h1 := (T.up_par hp hpar).2
      refine ⟨p, rfl, hp, ?_⟩
      rw [htmlR_at hck hp, show 41 - upN l (p : Int) = f from by omega]
    have HKD := Lib.hid hkid
    have HS := Lib.hid hS
    have hSs : S.size ≤ 10000000000 := by rw [hS, mk_size]; exact hsm
    obtain ⟨bb, o, rfl, hd⟩ := doc_at H3.out.doc (by have := H3.out.doc.hn; omega)
    obtain ⟨Aa, na, ca, Ak, nk, ck, hnd, e0, e1, e2, e3, e4, e5⟩ := hd.at_ i x hx
    have HKS := Lib.hid hnd.kids
    have hkk := hnd.kids.hn
    have hks := hnd.kids.small
    have HD := Lib.hid hd
    have HX := Lib.hid hx
    have HG := Lib.hid G
    subst hkk
    obtain ⟨g, hg⟩ : ∃ g : Int → List UInt8, g = htmlN l f := ⟨_, rfl⟩
    rw [← hg] at HS HKD
    have HFL := Lib.hid (kids_short (g := g) ((nodeE_iff x).1 (G.each x (List.mem_of_getElem? hx))).1.2.2 (by rw [hg]; exact hsm))
    have HUP := Lib.hid hup
    have j1 : (0 : Int) ≤ (i : Int) := by omega
    have j2 : (i : Int) < (k : Int) := by have := H3.out.doc.hn; omega
    clear hS hR hf hsm hkid hg hnd hd hx G T hup
    have c0 := H3.out.c0
    go_upto_region 9 with fail
    clear e0 e1 e2 e3 e4 e5
    go_loopw [43, 7] (fun iv sv wr => ∃ (j : Nat) (sb : ByteArray), j ≤ x.kids.length ∧ iv = .int .i64 (j : Int) ∧ sv = .string sb ∧ Hid (sb = ⟨((x.kids.take j).flatMap g).toArray⟩) ∧ Hid (Below w3.heap.size w3 wr)) (fun iv _ _ => x.kids.length - (intOf iv).toNat)
    case atStart => exact ⟨0, ⟨#[]⟩, Nat.zero_le _, rfl, rfl, Lib.hid rfl, Lib.hid (Below.refl _ _)⟩
    case round =>
      obtain ⟨j, sb, hj, rfl, rfl, HSB, HR⟩ := hrel
      have HDB := Lib.hid (H3.out.next HR.out)
      have hsb : sb.size ≤ 10000000000 := by
        rw [HSB.out, mk_size]
        exact Nat.le_trans (flat_le g x.kids j) HFL.out.1
      by_cases hlt : j < x.kids.length
      · obtain ⟨z, hz⟩ : ∃ z, x.kids[j]? = some z := get_some hlt
        obtain ⟨p, rfl, hp, hhp⟩ := HKD.out z (List.mem_of_getElem? hz)
        obtain ⟨bk, ok, ek, _, u1, _⟩ := (HKS.out.below HR.out H3.out.le).int hz
        subst ek
        have HTK := Lib.hid (HTM.out (p : Int) wr HDB.out)
        obtain ⟨tb, htb⟩ : ∃ tb : ByteArray, tb = ⟨(g (p : Int)).toArray⟩ := ⟨_, rfl⟩
        have hsn := flat_snoc g hz
        have htbs : tb.size ≤ 10000000000 := by
          have h1 := flat_le g x.kids (j + 1)
          rw [hsn, List.length_append] at h1
          have := HFL.out.1
          rw [htb, mk_size]
          omega
        have HSB2 : Hid (sb ++ tb = ⟨((x.kids.take (j + 1)).flatMap g).toArray⟩) := by
          apply bytes_ext2
          rw [bytes_app, HSB.out, htb, hsn]
        rw [hhp, ← htb] at HTK
        dsimp only at HTK
        have c0 := HDB.out.c0
        have c1 := HDB.out.c1
        have i1 : (0 : Int) ≤ (j : Int) := by omega
        have i2 : (j : Int) < (x.kids.length : Int) := by omega
        clear hz hhp htb hsn
        go_upto_region 11 with fail
        go_upto_region 12 with (go_at_call 6; refine HTK.out.mono ?_; rintro e' w5 ⟨rfl, hb5⟩)
        go_upto_region 14 with fail
        go_upto_region 15 with fail
        go_wp2_with fail
        have HR2 := Lib.hid (HR.out.trans (hb5.mono HR.out.size))
        go_roundw
        case rel => exact ⟨j + 1, _, by omega, by go_num, rfl, HSB2, HR2⟩
        case measure => simp [intOf]; omega
      · obtain rfl : j = x.kids.length := by omega
        have hsa := HSB.out
        rw [List.take_length] at hsa
        have HSA := Lib.hid hsa
        clear hsa HSB
        have HBG := Lib.hid (HWB.out wr HDB.out.below)
        have hmr : maxAt wr m := cell_be hm HDB.out.below
        obtain ⟨Ab, nb, cb, Al, nl, cl, hnd2, e0, e1, e2, e3, e4, e5⟩ := (HD.out.below HR.out H3.out.le).at_ i x HX.out
        have hnl := hnd2.kids.hn
        have HOK := Lib.hid ((nodeE_iff x).1 (HG.out.each x (List.mem_of_getElem? HX.out)))
        have hnm : x.name.size ≤ 400 := HOK.out.2.2.2.2
        have c0 := HDB.out.c0
        clear hnd2 hlt hj
        by_cases h1 : x.kind = 1
        · have hsq : (S.toList == sb.toList) = true := by rw [show S = sb from by rw [HS.out, HSA.out]; unfold nodeH; rw [if_pos h1]]; simp
          rw [h1] at e0
          clear h1 hnl
          go_wp2_with (go_at_call 7; refine HBG.out.mono ?_; rintro e w5 ⟨rfl, hb5⟩; have HB5 := Lib.hid hb5; have d0 := (HDB.out.next hb5).c0; have n1 := cell_be e1 hb5; clear hb5)
          refine bodyPost_ret (v := .bool true) (by simp [results, Tryd.results3, go_sem]) rfl ⟨rfl, ?_⟩
          exact HDB.out.below.trans (HB5.out.mono HDB.out.below.size)
        by_cases h2 : x.kind = 2
        · have hnel : (⟨(nodeH l g x).toArray⟩ : ByteArray).data.toList = elemH l g x := by show nodeH l g x = _; unfold nodeH; rw [if_neg h1, if_neg (by omega), if_neg (by omega), if_neg (by omega)]
          rw [h2] at e0
          clear h1 h2
          by_cases hkn : x.kids = []
          · have hn0 : nl = 0 := by rw [hnl, hkn]; rfl
            subst hn0
            clear hnl
            have HVD := Lib.hid (fun u hu => void_any x.name m u (by omega) hu)
            by_cases hv : voidB x.name = true
            · skip
              have HSX := Lib.hid (fun u => suf_any S ⟨#[62]⟩ u (by omega) (by rw [HS.out, hnel]; exact (elem_ends l g x).2.1 ⟨hv, hkn⟩))
              have HPX := Lib.hid (fun u => prefix_any S (⟨#[60]⟩ ++ x.name) u (by rw [HS.out, hnel, bytes_app]; exact (elem_ends l g x).1))
              rw [hv] at HVD
              clear hv hkn hnel
              go_wp2_with (first | (go_at_call 7; refine HBG.out.mono ?_; rintro e w5 ⟨rfl, hb5⟩; have HB5 := Lib.hid hb5; have d0 := (HDB.out.next hb5).c0; have n1 := cell_be e1 hb5; clear hb5) | (go_at_call 8; refine (HVD.out _ hmr).mono ?_; rintro e w5 ⟨rfl, rfl⟩) | (go_at_call 9; refine (HPX.out _).mono ?_; rintro e w6 ⟨rfl, rfl⟩) | (go_at_call 10; refine (HSX.out _).mono ?_; rintro e w6 ⟨rfl, rfl⟩))
              refine bodyPost_ret (v := .bool true) (by simp [results, Tryd.results3, go_sem]) rfl ⟨rfl, ?_⟩
              exact HDB.out.below.trans (HB5.out.mono HDB.out.below.size)
            · have hnv : ¬ (voidB x.name = true ∧ x.kids = []) := fun h => hv h.1
              have hv : voidB x.name = false := by simpa using hv
              clear hkn
              have HSX := Lib.hid (fun u => suf_any S (sb ++ ⟨#[60, 47]⟩ ++ x.name ++ ⟨#[62]⟩) u (by omega) (by rw [HS.out, hnel, bytes_app, bytes_app, bytes_app, HSA.out]; exact (elem_ends l g x).2.2 hnv))
              have HPX := Lib.hid (fun u => prefix_any S (⟨#[60]⟩ ++ x.name) u (by rw [HS.out, hnel, bytes_app]; exact (elem_ends l g x).1))
              rw [hv] at HVD
              clear hv
              clear hnel hnv
              go_wp2_with (first | (go_at_call 7; refine HBG.out.mono ?_; rintro e w5 ⟨rfl, hb5⟩; have HB5 := Lib.hid hb5; have d0 := (HDB.out.next hb5).c0; have n1 := cell_be e1 hb5; clear hb5) | (go_at_call 8; refine (HVD.out _ hmr).mono ?_; rintro e w5 ⟨rfl, rfl⟩) | (go_at_call 9; refine (HPX.out _).mono ?_; rintro e w6 ⟨rfl, rfl⟩) | (go_at_call 10; refine (HSX.out _).mono ?_; rintro e w6 ⟨rfl, rfl⟩))
              refine bodyPost_ret (v := .bool true) (by simp [results, Tryd.results3, go_sem]) rfl ⟨rfl, ?_⟩
              exact HDB.out.below.trans (HB5.out.mono HDB.out.below.size)
          · have hnv : ¬ (voidB x.name = true ∧ x.kids = []) := fun h => hkn h.2
            have hnz : ((nl : Int) == 0) = false := beq_eq_false_iff_ne.2 (by
              have := List.length_pos_iff.2 hkn
              omega)
            clear hkn hnl
            have HSX := Lib.hid (fun u => suf_any S (sb ++ ⟨#[60, 47]⟩ ++ x.name ++ ⟨#[62]⟩) u (by omega) (by rw [HS.out, hnel, bytes_app, bytes_app, bytes_app, HSA.out]; exact (elem_ends l g x).2.2 hnv))
            have HPX := Lib.hid (fun u => prefix_any S (⟨#[60]⟩ ++ x.name) u (by rw [HS.out, hnel, bytes_app]; exact (elem_ends l g x).1))
            clear hnel hnv
            go_wp2_with (first | (go_at_call 7; refine HBG.out.mono ?_; rintro e w5 ⟨rfl, hb5⟩; have HB5 := Lib.hid hb5; have d0 := (HDB.out.next hb5).c0; have n1 := cell_be e1 hb5; clear hb5) | (go_at_call 9; refine (HPX.out _).mono ?_; rintro e w6 ⟨rfl, rfl⟩) | (go_at_call 10; refine (HSX.out _).mono ?_; rintro e w6 ⟨rfl, rfl⟩))
            refine bodyPost_ret (v := .bool true) (by simp [results, Tryd.results3, go_sem]) rfl ⟨rfl, ?_⟩
            exact HDB.out.below.trans (HB5.out.mono HDB.out.below.size)
        · have hke := HFL.out.2 h1 h2
          have hsq : (sb.toList == []) = true := list_nil (by rw [HSA.out, hke]; rfl)
          have hk1 : (x.kind == 1) = false := beq_eq_false_iff_ne.2 h1
          have hk2 : (x.kind == 2) = false := beq_eq_false_iff_ne.2 h2
          clear h1 h2 hke hnl
          go_wp2_with (go_at_call 7; refine HBG.out.mono ?_; rintro e w5 ⟨rfl, hb5⟩; have HB5 := Lib.hid hb5; have d0 := (HDB.out.next hb5).c0; have n1 := cell_be e1 hb5; clear hb5)
          refine bodyPost_ret (v := .bool true) (by simp [results, Tryd.results3, go_sem]) rfl ⟨rfl, ?_⟩
          exact HDB.out.below.trans (HB5.out.mono HDB.out.below.size)
  · have hSe : S = ⟨#[]⟩ := by rw [HS0.out, htmlR_bad (by rw [← HER.out]; exact hez)]
    have hne : (er != 0) = true := by simpa using hez
    have hse : (S.toList == []) = true := by rw [hSe]; exact list_nil rfl
    have HBG := Lib.hid (HWB.out w3 H3.out.below)
    clear hez hSe
    go_wp2_with (go_at_call 7; refine HBG.out.mono ?_; rintro e w4 ⟨rfl, hb4⟩)
    refine bodyPost_ret (v := .bool true) (by simp [results, Tryd.results3, go_sem]) rfl ⟨rfl, ?_⟩
    exact H3.out.below.trans (hb4.mono H3.out.below.size)
end Go.Proofs.YtpbpcmmlloholaaDoor
