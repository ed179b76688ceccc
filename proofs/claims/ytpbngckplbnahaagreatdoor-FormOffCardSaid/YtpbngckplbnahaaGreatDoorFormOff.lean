/-
The walk of FormOff: what is disabled is told nowhere.
-/
import Derived.Test.YtpbngckplbnahaaGreatDoorFormAsk
import Derived.Test.YtpbngckplbnahaaGreatDoorFormBegun
import Derived.Test.YtpbngckplbnahaaGreatDoorFormOffLaw
import Derived.Test.YtpbngckplbnahaaGreatDoorDocBox
namespace Go.Proofs.YtpbngckplbnahaaGreatDoor
open Go.RowKit Go.Cl
attribute [local go_sem ↓] Go.wp_at_zero Go.wp_at_succ

theorem ctrl_name {l : List Nd} {n : Int} {names : ByteArray} (h : ctrlE l n names = 0) : (atD l n).kind = 2 ∧ oneB (atD l n).name names = true := by
  unfold ctrlE at h
  obtain ⟨h1, _⟩ := ctrl_zero (l := l) (n := n) (names := names) (by unfold ctrlE; exact h)
  rw [if_neg (by simp [h1])] at h
  split at h
  · cases h
  · split at h
    · cases h
    · rename_i h3
      refine ⟨?_, ?_⟩
      · by_cases hk : (atD l n).kind = 2
        · exact hk
        · exact absurd (.inl hk) h3
      · cases ho : oneB (atD l n).name names with
        | true => rfl
        | false => exact absurd (.inr ho) h3
theorem len_filter {α : Type} (p : α → Bool) (l : List α) : (l.filter p).length + (l.filter fun z => !p z).length = l.length := by
  induction l with
  | nil => rfl
  | cons a l ih =>
    rw [List.filter_cons, List.filter_cons]
    cases p a <;> simp at ih ⊢ <;> omega
def cntN (nm : ByteArray) (l : List Ent) : Nat := (l.filter fun z => z.1.toList == nm.toList).length
theorem cnt_le (nm : ByteArray) (l : List Ent) : cntN nm l ≤ l.length := List.length_filter_le _ _
theorem cnt_snoc {nm : ByteArray} {l : List Ent} {k : Nat} {z : Ent} (h : l[k]? = some z) : cntN nm (l.take (k + 1)) = cntN nm (l.take k) + if z.1.toList == nm.toList then 1 else 0 := by
  unfold cntN
  rw [take_snoc h, List.filter_append, List.length_append, List.filter_cons]
  split <;> simp
theorem cnt_same {nm : ByteArray} {a b : List Ent} (h : a.filter (fun z => !(z.1.toList == nm.toList)) = b.filter (fun z => !(z.1.toList == nm.toList))) : a.length - cntN nm a = b.length - cntN nm b := by
  have h1 := len_filter (fun z : Ent => z.1.toList == nm.toList) a
  have h2 := len_filter (fun z : Ent => z.1.toList == nm.toList) b
  rw [h] at h1
  unfold cntN
  omega
/-- The edit. -/
def offE (n : Int) : Edt := ⟨1, n, 0, 0, (⟨#[100, 105, 115, 97, 98, 108, 101, 100]⟩ : ByteArray), ⟨#[]⟩, ⟨0, ⟨#[]⟩, [], ⟨#[]⟩, 0, []⟩⟩
theorem off_ok {nn : Int} (w : World) (D : Nat → Prop) (h : (Lit.int .i64 nn).wf = true) : EdtOk w D (offE nn) none 0 0 none 0 0 :=
  ⟨⟨Sl.nil, Sl.nil, by show (Lit.int .i64 0).wf = true; decide, by show (⟨#[]⟩ : ByteArray).size ≤ _; decide, by show (⟨#[]⟩ : ByteArray).size ≤ _; decide, by show (Lit.int .i64 0).wf = true; decide⟩, h, by show (Lit.int .i64 0).wf = true; decide, by show (Lit.int .i64 0).wf = true; decide, by show ((⟨#[100, 105, 115, 97, 98, 108, 101, 100]⟩ : ByteArray)).size ≤ _; decide, by show (⟨#[]⟩ : ByteArray).size ≤ _; decide⟩
theorem off_dis {l : List Nd} {i : Nat} (h : apErr l (offE (i : Int)) = 0) : ∃ x, l[i]? = some x ∧ edDo l (offE (i : Int)) = l.set i { x with attrs := attrPut x.attrs (⟨#[100, 105, 115, 97, 98, 108, 101, 100]⟩ : ByteArray) ⟨#[]⟩ } := by
  unfold apErr at h
  split at h
  · rename_i h1; exact absurd h h1
  · have h2 : attrErr l (i : Int) (⟨#[100, 105, 115, 97, 98, 108, 101, 100]⟩ : ByteArray) ⟨#[]⟩ = 0 := h
    unfold attrErr at h2
    rw [nodeAt_nat] at h2
    cases hx : l[i]? with
    | none => rw [hx] at h2; cases h2
    | some x =>
      refine ⟨x, rfl, ?_⟩
      show attrDo l (i : Int) (⟨#[100, 105, 115, 97, 98, 108, 101, 100]⟩ : ByteArray) ⟨#[]⟩ = _
      unfold attrDo
      rw [setAt_nat hx]
theorem ent_ok {l : List Nd} {form : Int} (h : (entR l form).2 = 0) : ctrlE l form (⟨#[32, 102, 111, 114, 109, 32]⟩ : ByteArray) = 0 ∧ (entFold l (preR l 0) form).1.length ≤ 100 ∧ (entR l form).1 = (entFold l (preR l 0) form).1 := by
  unfold entR at h ⊢
  split
  · rename_i h1; rw [if_pos h1] at h; exact absurd h h1
  · rename_i h1
    rw [if_neg h1] at h
    split
    · rename_i h2; rw [if_pos h2] at h; cases h
    · rename_i h2
      exact ⟨by by_cases h3 : ctrlE l form (⟨#[32, 102, 111, 114, 109, 32]⟩ : ByteArray) = 0; exact h3; exact absurd h3 h1, by omega, rfl⟩
theorem ent_yes {l : List Nd} {form : Int} (h1 : ctrlE l form (⟨#[32, 102, 111, 114, 109, 32]⟩ : ByteArray) = 0) (h2 : (entFold l (preR l 0) form).1.length ≤ 100) : entR l form = ((entFold l (preR l 0) form).1, 0) := by
  unfold entR
  rw [if_neg (by simp [h1]), if_neg (by omega)]
theorem ap_good2 {l : List Nd} (h : Good l) (e : Edt) : apErr l e = edErr l e := by unfold apErr; rw [if_neg (by rw [check_of h]; simp)]
/-- What the other document is. -/
theorem off_y {l : List Nd} {i : Nat} (hck : checkD l = 0) (hco : ctrlE l (i : Int) (⟨#[32, 105, 110, 112, 117, 116, 32, 116, 101, 120, 116, 97, 114, 101, 97, 32, 115, 101, 108, 101, 99, 116, 32, 98, 117, 116, 116, 111, 110, 32]⟩ : ByteArray) = 0) (hap : apErr l (offE (i : Int)) = 0) :
    ∃ Y x, edDo l (offE (i : Int)) = Y ∧ l[i]? = some x ∧ x.kind = 2 ∧ Dis l Y i ∧ checkD Y = 0 ∧ attrF l (i : Int) (⟨#[110, 97, 109, 101]⟩ : ByteArray) = ofA x.attrs (⟨#[110, 97, 109, 101]⟩ : ByteArray) ∧ (atD l (i : Int)).name ≠ (⟨#[111, 112, 116, 105, 111, 110]⟩ : ByteArray) ∧ (atD l (i : Int)).name ≠ (⟨#[102, 105, 101, 108, 100, 115, 101, 116]⟩ : ByteArray) := by
  obtain ⟨x, hx, hdo⟩ := off_dis hap
  obtain ⟨h1, h2⟩ := ctrl_name hco
  have hG := good_of hck
  have hY : Good (edDo l (offE (i : Int))) := good_ed hG ((ap_good2 hG _).symm.trans hap)
  refine ⟨_, x, rfl, hx, by rw [atD_at hx] at h1; exact h1, by rw [hdo]; exact dis_of hx _, check_of hY, by unfold attrF; rw [atD_at hx], fun e => ?_, fun e => ?_⟩
  · rw [e] at h2; exact absurd h2 (by decide +kernel)
  · rw [e] at h2; exact absurd h2 (by decide +kernel)
theorem off_ctrl {l Y : List Nd} {i : Nat} (D : Dis l Y i) (hY : checkD Y = 0) {form : Int} (h : ctrlE l form (⟨#[32, 102, 111, 114, 109, 32]⟩ : ByteArray) = 0) : ctrlE Y form (⟨#[32, 102, 111, 114, 109, 32]⟩ : ByteArray) = 0 := by
  have hl := (ctrl_zero h).1
  unfold ctrlE at h ⊢
  rw [if_neg (by simp [hl])] at h
  rw [if_neg (by simp [hY]), D.len, (D.name form).1, (D.name form).2, D.preR]
  exact h
/-- What is told of the other document. -/
theorem off_told {l Y : List Nd} {i : Nat} (D : Dis l Y i) (hY : checkD Y = 0) (hn : (atD l (i : Int)).name ≠ (⟨#[111, 112, 116, 105, 111, 110]⟩ : ByteArray) ∧ (atD l (i : Int)).name ≠ (⟨#[102, 105, 101, 108, 100, 115, 101, 116]⟩ : ByteArray)) {form : Int} (h : ctrlE l form (⟨#[32, 102, 111, 114, 109, 32]⟩ : ByteArray) = 0) (hle : (entFold l (preR l 0) form).1.length ≤ 100) :
    ∃ M, entR Y form = (M, 0) ∧ M.length ≤ (entFold l (preR l 0) form).1.length ∧ (entFold l (preR l 0) form).1.length - cntN (attrF l (i : Int) (⟨#[110, 97, 109, 101]⟩ : ByteArray)) (entFold l (preR l 0) form).1 = M.length - cntN (attrF l (i : Int) (⟨#[110, 97, 109, 101]⟩ : ByteArray)) M ∧
      (ownerF l (preR l 0) (i : Int) ≠ form → M.length = (entFold l (preR l 0) form).1.length) := by
  have hL := less_all D hn form
  have hm : (entFold Y (preR Y 0) form).1.length ≤ (entFold l (preR l 0) form).1.length := by have := hL.few; omega
  refine ⟨_, ent_yes (off_ctrl D hY h) (by omega), hm, cnt_same hL.rest, fun ho => ?_⟩
  rw [same_all D hn form ho]
set_option maxRecDepth 100000 in
set_option maxHeartbeats 16000000 in
theorem formOff_walk (A : Option Addr) (n c : Nat) (l : List Nd) (q : Bool) (form nn : Int) (w : World) (B : Nat) (hl : Sl tNd w (lt B) A n c l) (hB : B ≤ w.heap.size) (hE : Env w) (hwf : (Lit.int .i64 form).wf = true) (hwn : (Lit.int .i64 nn).wf = true) :
    Calls Tryz.prog 9 #[.agg #[.slice A n c, .bool q], .int .i64 form, .int .i64 nn] w fun e w' => e = .returned (.bool true) ∧ Below w.heap.size w w' := by
  obtain ⟨w0, hw0⟩ : ∃ w0, w0 = w.alloc (.cells #[.slice A n c, .bool q] 29) := ⟨_, rfl⟩
  have hbx : w0.heap[w.heap.size]? = some (.cells #[.slice A n c, .bool q] 29 (0, 0)) := by rw [hw0]; exact heap_alloc_new w _
  have b0 : w0.cell? ⟨w.heap.size, 0, none⟩ = some (.slice A n c) := cell_blk hbx rfl
  have b1 : w0.cell? ⟨w.heap.size, 1, none⟩ = some (.bool q) := cell_blk hbx rfl
  have hb0 : Below w.heap.size w w0 := by rw [hw0]; exact (Below.refl _ _).alloc (Nat.le_refl _) _
  have hz0 : w0.heap.size = w.heap.size + 1 := by rw [hw0]; exact World.size_alloc w _
  have HB0 := Lib.hid hb0
  have HBX := Lib.hid hbx
  have HL := Lib.hid hl
  have HE := Lib.hid hE
  have HWF := Lib.hid hwf
  have HWN := Lib.hid hwn
  obtain ⟨k, hk, hkc, hkn⟩ : ∃ k : Nat, min (n : Int) 60 = (k : Int) ∧ k ≤ c ∧ k ≤ n := ⟨min n 60, by omega, by have := hl.hc; omega, by omega⟩
  have HF := Lib.hid (few_any A n c k q 60 w0 hk hkc)
  clear hb0 hl hE hwf hwn
  go_enter Tryz.func9, Tryz.ntmps9
  go_upto_region 1 with fail
  rw [← hw0]
  clear hw0
  go_upto_region 2 with (go_at_call 21; refine HF.out.mono ?_; rintro e w1 ⟨rfl, hb1⟩; have hbx1 : w1.heap[w.heap.size]? = some (.cells #[.slice A n c, .bool q] 29 (0, 0)) := (hb1.block _ (by omega)).trans HBX.out; have y0 := cell_blk (i := 0) hbx1 rfl; have y1 := cell_blk (i := 1) hbx1 rfl; have f0 := free_blk (i := 0) hbx1; have f1 := free_blk (i := 1) hbx1)
  obtain ⟨w2, hw2⟩ : ∃ w2, w2 = (w1.setCell ⟨w.heap.size, 0, none⟩ (.slice A k c)).setCell ⟨w.heap.size, 1, none⟩ (.bool q) := ⟨_, rfl⟩
  have hb2 : Below w.heap.size w w2 := by rw [hw2]; exact ((HB0.out.trans (hb1.mono HB0.out.size)).setCell (Nat.le_refl _) _).setCell (Nat.le_refl _) _
  have hbx2 : w2.heap[w.heap.size]? = some (.cells #[.slice A k c, .bool q] 29 (0, 0)) := by rw [hw2]; exact set_blk (i := 1) (set_blk (i := 0) hbx1 _) _
  rw [← hw2]
  have z0 : w2.cell? ⟨w.heap.size, 0, none⟩ = some (.slice A k c) := cell_blk hbx2 rfl
  have z1 : w2.cell? ⟨w.heap.size, 1, none⟩ = some (.bool q) := cell_blk hbx2 rfl
  have hl2 := (HL.out.cut_to hkn).below hb2 hB
  have hB2 : B ≤ w2.heap.size := Nat.le_trans hB hb2.size
  have H2 : Hid (DB w B A k c q (l.take k) w2) := ⟨hb2, hbx2, hl2, hB2⟩
  clear hw2 hb1 hbx1 y0 y1 f0 f1 b0 b1 hb2 hbx2 hbx hl2 HL HF hB2 HBX HB0 hz0
  generalize l.take k = l at *
  have HBG := Lib.hid (fun u (hu : Below w.heap.size w u) => formBegun_any u (HE.out.below hu))
  have HEN := Lib.hid (entries_any A k c l q form w2 B H2.out.doc H2.out.le (HE.out.below H2.out.below) HWF.out)
  go_upto_region 3 with (go_at_call 10; refine HEN.out.mono ?_; rintro e w3 ⟨hb3, hp⟩; rcases hp with ⟨h0, rfl⟩ | ⟨h0, v, rfl, ho⟩)
  · -- with an error
    have k1 : ((entR l form).2 != 0) = true := by simpa using h0
    have HB3 := Lib.hid (H2.out.below.trans (hb3.mono H2.out.below.size))
    clear h0 hb3 z0 z1
    generalize (entR l form).2 = er at *
    go_wp2_with (go_at_call 12; refine (HBG.out w3 HB3.out).mono ?_; rintro e w4 ⟨rfl, hb4⟩)
    go_ret
    exact ⟨rfl, HB3.out.trans (hb4.mono HB3.out.size)⟩
  · obtain ⟨hcf, hle, hee⟩ := ent_ok h0
    rw [hee] at ho
    obtain ⟨A3, c3, e3, hs3⟩ := OwnF.sl ho (by decide) (by show (entFold l (preR l 0) form).1.length * 32 ≤ _; omega)
    subst e3
    have HNM := Lib.hid (ent_named (l := l) (ord := preR l 0) (form := form) (preR l 0).reverse ([], []) (fun _ h => by cases h))
    have HFD := Lib.hid (show ∀ z ∈ (entFold l (preR l 0) form).1, z.1.size ≠ 0 from HNM.out)
    have HCF := Lib.hid hcf
    obtain ⟨hck, fi, hfi, hfl⟩ := ctrl_zero hcf
    have HFI := Lib.hid (show 0 ≤ form from by omega)
    have HCK := Lib.hid hck
    have H3 := Lib.hid (H2.out.next hb3)
    have HS3 := Lib.hid hs3
    have hc3 := hs3.hc
    have z0 := H3.out.c0
    have z1 := H3.out.c1
    clear h0 hee hb3 ho hs3 hcf hck hfi hfl HNM HEN H2
    obtain ⟨L, hL⟩ : ∃ L, (entFold l (preR l 0) form).1 = L := ⟨_, rfl⟩
    rw [hL] at HFD HS3 hc3 hle
    rw [hL]
    have HLL := Lib.hid hL
    clear hL
    go_upto_region 6 with fail
    go_loop [9] (fun s => ∃ j : Nat, j ≤ L.length ∧ s = .int .i64 (j : Int)) (fun s => L.length - (intOf s).toNat)
    case atStart => exact ⟨0, Nat.zero_le _, rfl⟩
    case round =>
      obtain ⟨j, hj, rfl⟩ := hrel
      by_cases hlt : j < L.length
      · obtain ⟨z, hz⟩ : ∃ z, L[j]? = some z := get_some hlt
        obtain ⟨b8, o8, e8, _, c8, _, _, _⟩ := da_get HS3.out (a := z) hz
        subst e8
        have hne := estr_no (s := z.1) (by have := HFD.out z (List.mem_of_getElem? hz); omega)
        have i5 : (0 : Int) ≤ (j : Int) := by omega
        have i6 : (j : Int) < (L.length : Int) := by omega
        clear hz
        go_wp2_with fail
        go_round
        case rel => exact ⟨j + 1, by omega, by go_num⟩
        case measure => simp [intOf]; omega
      · have HOD := Lib.hid (ownerD_any A k c l q nn w3 B H3.out.doc H3.out.le (HE.out.below H3.out.below) HWN.out)
        have HAP : Hid (∀ V, Below w3.heap.size w3 V → Calls Tryz.prog 23 #[.agg #[.slice A k c, .bool q], .agg #[.int .i64 1, .int .i64 nn, .int .i64 0, .int .i64 0, .string (⟨#[100, 105, 115, 97, 98, 108, 101, 100]⟩ : ByteArray), .string ⟨#[]⟩, .int .i64 0, .string ⟨#[]⟩, .slice none 0 0, .string ⟨#[]⟩, .int .i64 0, .slice none 0 0]] V (ApPost V l q (offE nn))) := fun V hV => apply_any A k c l q (offE nn) none 0 0 none 0 0 V B (H3.out.next hV).doc (H3.out.next hV).le (off_ok _ _ HWN.out)
        by_cases hco : ctrlE l nn (⟨#[32, 105, 110, 112, 117, 116, 32, 116, 101, 120, 116, 97, 114, 101, 97, 32, 115, 101, 108, 101, 99, 116, 32, 98, 117, 116, 116, 111, 110, 32]⟩ : ByteArray) = 0
        · obtain ⟨_, i, rfl, hi⟩ := ctrl_zero hco
          have HOD2 := Lib.hid (HOD.out.mono (R' := fun e w' => Below w3.heap.size w3 w' ∧ e = .returned (.tuple #[.int .i64 (max (ownerF l (preR l 0) (i : Int)) 0), .bool (decide (0 ≤ ownerF l (preR l 0) (i : Int))), .int .i64 0])) fun e w' h => ⟨h.1, (h.2.resolve_left fun h => h.1 hco).2⟩)
          have HCO := Lib.hid hco
          have HI : Hid (i < l.length) := hi
          clear HOD hco hi
          obtain ⟨ow, how⟩ : ∃ ow, ownerF l (preR l 0) (i : Int) = ow := ⟨_, rfl⟩
          rw [how] at HOD2
          have HOW := Lib.hid how
          clear how
          go_upto_region 11 with (go_at_call 22; refine HOD2.out.mono ?_; rintro e w4 ⟨hb4, rfl⟩)
          have H4 := Lib.hid (H3.out.next hb4)
          have HS4 := Lib.hid (HS3.out.below hb4 (Nat.le_refl _))
          have HAP4 := Lib.hid (HAP.out w4 hb4)
          have z0 := H4.out.c0
          have z1 := H4.out.c1
          have HZ4 := Lib.hid hb4.size
          clear hb4 H3 HS3 HAP HOD2
          by_cases hap : apErr l (offE (i : Int)) = 0
          · obtain ⟨Y, x, hY, hx, hxk, D, hcY, hnm, hnn⟩ := off_y HCK.out HCO.out hap
            obtain ⟨M, hM, hml, hcnt, hsame⟩ := off_told D hcY hnn HCF.out (by rw [HLL.out]; exact hle)
            rw [HLL.out, hnm] at hcnt
            rw [HLL.out] at hml hsame
            rw [HOW.out] at hsame
            have HAP5 := Lib.hid (HAP4.out.mono (R' := fun e w' => Below w4.heap.size w4 w' ∧ ∃ A' c' m', e = .returned (.tuple #[.agg #[.slice A' Y.length c', .bool q], .int .i64 m', .int .i64 0]) ∧ Sl tNd w' (rg w4.heap.size w'.heap.size) A' Y.length c' Y) fun e w' h => ⟨h.1, by
              obtain ⟨_, A', c', h1, h2⟩ := h.2.resolve_left fun h => h.1 hap
              rw [hY] at h1 h2
              exact ⟨A', c', _, h1, h2⟩⟩)
            clear hap HAP4 hY D hcY hnn
            have HX := Lib.hid hx
            have HXK := Lib.hid hxk
            have HM := Lib.hid hM
            have HC := Lib.hid hcnt
            clear hx hxk hM hcnt
            go_upto_region 14 with (go_at_call 23; refine HAP5.out.mono ?_; rintro e w5 ⟨hb5, A', c', m', rfl, hs5⟩)
            obtain ⟨w6, hw6⟩ : ∃ w6, w6 = w5.alloc (.cells #[.slice A' Y.length c', .bool q] 29) := ⟨_, rfl⟩
            have hbx6 : w6.heap[w5.heap.size]? = some (.cells #[.slice A' Y.length c', .bool q] 29 (0, 0)) := by rw [hw6]; exact heap_alloc_new w5 _
            have hb6 : Below w4.heap.size w4 w6 := by rw [hw6]; exact balloc hb5 _
            have hb56 : Below w5.heap.size w5 w6 := by rw [hw6]; exact balloc (Below.refl _ _) _
            rw [← hw6]
            have y0 : w6.cell? ⟨w5.heap.size, 0, none⟩ = some (.slice A' Y.length c') := cell_blk hbx6 rfl
            have y1 : w6.cell? ⟨w5.heap.size, 1, none⟩ = some (.bool q) := cell_blk hbx6 rfl
            have HEN6 := Lib.hid (entries_any A' Y.length c' Y q form w6 w5.heap.size ((hs5.more fun _ hb => hb.2).below hb56 (Nat.le_refl _)) hb56.size (HE.out.below (H4.out.below.trans (hb6.mono H4.out.below.size))) HWF.out)
            have H6 := Lib.hid (H4.out.next hb6)
            have HS6 := Lib.hid (HS4.out.below hb6 HZ4.out)
            have HS6z := Lib.hid (Nat.le_trans HZ4.out hb6.size)
            clear hw6 hbx6 hb6 hb56 hb5 hs5 HAP5 H4 HS4 HZ4 z0 z1 hnm
            have HEN7 := Lib.hid (HEN6.out.mono (R' := fun e w' => Below w6.heap.size w6 w' ∧ ∃ A7 c7, e = .returned (.tuple #[.slice A7 M.length c7, .int .i64 0]) ∧ Sl tDA w' (lt w'.heap.size) A7 M.length c7 M) fun e w' h => ⟨h.1, by
              rcases h.2 with ⟨h0, _⟩ | ⟨_, v, h1, h2⟩
              · exact absurd (by rw [HM.out]) h0
              · rw [HM.out] at h2
                obtain ⟨A7, c7, rfl, hs⟩ := OwnF.sl h2 (by decide) (by show M.length * 32 ≤ _; omega)
                exact ⟨A7, c7, h1, hs⟩⟩)
            clear HEN6
            go_upto_region 15 with (go_at_call 10; refine HEN7.out.mono ?_; rintro e w7 ⟨hb7, A7, c7, rfl, hs7⟩)
            have H7 := Lib.hid (H6.out.next hb7)
            have HS7 := Lib.hid (HS6.out.below hb7 HS6z.out)
            have HM7 := Lib.hid hs7
            have HS7z := Lib.hid (Nat.le_trans HS6z.out hb7.size)
            have hc7 := hs7.hc
            have z0 := H7.out.c0
            have z1 := H7.out.c1
            clear H6 HS6 HS6z HEN7 hs7 y0 y1 HM
            have hBB := H7.out.le
            have HAT := Lib.hid (attrEl_any A k c l q i x (⟨#[110, 97, 109, 101]⟩ : ByteArray) w7 B H7.out.doc hBB HCK.out HX.out HXK.out)
            have HBG7 := Lib.hid (fun (u : World) (hu : Below w7.heap.size w7 u) => HBG.out u (H7.out.below.trans (hu.mono H7.out.below.size)))
            have HN7 := Lib.hid (fun (u : World) (hu : Below w7.heap.size w7 u) => H7.out.below.trans (hu.mono H7.out.below.size))
            have i7 : (M.length : Int) ≤ (L.length : Int) := by omega
            have KEY : (decide (0 ≤ ow) = false ∧ ((M.length : Int) != (L.length : Int)) = false) ∨ (decide (0 ≤ ow) = true ∧ (max ow 0 != form) = false) ∨ (decide (0 ≤ ow) = true ∧ (max ow 0 != form) = true ∧ ((M.length : Int) != (L.length : Int)) = false) := by
              have hf := HFI.out
              by_cases h1 : 0 ≤ ow
              · by_cases h2 : ow = form
                · exact .inr (.inl ⟨by simpa using h1, by rw [Int.max_eq_left h1]; simpa using h2⟩)
                · exact .inr (.inr ⟨by simpa using h1, by rw [Int.max_eq_left h1]; simpa using h2, by have := hsame h2; simp [this]⟩)
              · exact .inl ⟨by simpa using h1, by have := hsame (by omega); simp [this]⟩
            clear hsame HFI HOW
            generalize ofA x.attrs (⟨#[110, 97, 109, 101]⟩ : ByteArray) = nm at *
            generalize decide (0 ≤ ow) = d at *
            generalize max ow 0 = mo at *
            rcases KEY with ⟨rfl, q2⟩ | ⟨rfl, q2⟩ | ⟨rfl, q2, q3⟩
            all_goals
              go_upto_region 18 with (go_at_call 24; refine HAT.out.mono ?_; rintro e w8 ⟨⟨b8, rfl⟩, hb8⟩)
              have HS8 := Lib.hid (HS7.out.below hb8 HS7z.out)
              have HM8 := Lib.hid (HM7.out.below hb8 (Nat.le_refl _))
              have HBG8 := Lib.hid (fun (u : World) (hu : Below w8.heap.size w8 u) => HBG7.out u (hb8.trans (hu.mono hb8.size)))
              have HN8 := Lib.hid (HN7.out w8 hb8)
              clear hb8 HAT HS7 HM7 HBG7 HN7 H7 z0 z1 hBB
              go_upto_region 20 with fail
              go_loop [21, 23] (fun s t => ∃ j : Nat, j ≤ L.length ∧ t = .int .i64 (j : Int) ∧ s = .int .i64 (cntN nm (L.take j) : Nat)) (fun _ t => L.length - (intOf t).toNat)
              case atStart => exact ⟨0, Nat.zero_le _, rfl, rfl⟩
              case round =>
                obtain ⟨j3, hj3, rfl, rfl⟩ := hrel
                by_cases hlj3 : j3 < L.length
                · obtain ⟨z, hz⟩ : ∃ z, L[j3]? = some z := get_some hlj3
                  obtain ⟨b9, o9, e9, _, c9, _, _, _⟩ := da_get HS8.out (a := z) hz
                  subst e9
                  have hcs := cnt_snoc (nm := nm) hz
                  have hcb := cnt_le nm (L.take j3)
                  rw [List.length_take] at hcb
                  have i5 : (0 : Int) ≤ (j3 : Int) := by omega
                  have i6 : (j3 : Int) < (L.length : Int) := by omega
                  clear hz
                  cases hq : (z.1.toList == nm.toList) with
                  | true =>
                    rw [hq, if_pos rfl] at hcs
                    generalize cntN nm (L.take j3) = cn at *
                    go_wp2_with fail
                    go_round
                    case rel => exact ⟨j3 + 1, by omega, by go_num, by rw [hcs]; go_num⟩
                    case measure => simp [intOf]; omega
                  | false =>
                    rw [hq, if_neg (by simp)] at hcs
                    generalize cntN nm (L.take j3) = cn at *
                    go_wp2_with fail
                    go_round
                    case rel => exact ⟨j3 + 1, by omega, by go_num, by rw [hcs]; rfl⟩
                    case measure => simp [intOf]; omega
                · obtain rfl : j3 = L.length := by omega
                  rw [List.take_length] at *
                  go_upto_region 25 with fail
                  go_loop [22, 24] (fun s t => ∃ j : Nat, j ≤ M.length ∧ t = .int .i64 (j : Int) ∧ s = .int .i64 (cntN nm (M.take j) : Nat)) (fun _ t => M.length - (intOf t).toNat)
                  case atStart => exact ⟨0, Nat.zero_le _, rfl, rfl⟩
                  case round =>
                    obtain ⟨j4, hj4, rfl, rfl⟩ := hrel
                    by_cases hlj4 : j4 < M.length
                    · obtain ⟨z, hz⟩ : ∃ z, M[j4]? = some z := get_some hlj4
                      obtain ⟨b9, o9, e9, _, c9, _, _, _⟩ := da_get HM8.out (a := z) hz
                      subst e9
                      have hcs := cnt_snoc (nm := nm) hz
                      have hcb := cnt_le nm (M.take j4)
                      rw [List.length_take] at hcb
                      have i5 : (0 : Int) ≤ (j4 : Int) := by omega
                      have i6 : (j4 : Int) < (M.length : Int) := by omega
                      clear hz
                      cases hq : (z.1.toList == nm.toList) with
                      | true =>
                        rw [hq, if_pos rfl] at hcs
                        generalize cntN nm (M.take j4) = cn at *
                        go_wp2_with fail
                        go_round
                        case rel => exact ⟨j4 + 1, by omega, by go_num, by rw [hcs]; go_num⟩
                        case measure => simp [intOf]; omega
                      | false =>
                        rw [hq, if_neg (by simp)] at hcs
                        generalize cntN nm (M.take j4) = cn at *
                        go_wp2_with fail
                        go_round
                        case rel => exact ⟨j4 + 1, by omega, by go_num, by rw [hcs]; rfl⟩
                        case measure => simp [intOf]; omega
                    · obtain rfl : j4 = M.length := by omega
                      rw [List.take_length] at *
                      have hca := cnt_le nm L
                      have hcb := cnt_le nm M
                      have hcc := HC.out
                      obtain ⟨ca, hca2⟩ : ∃ ca, cntN nm L = ca := ⟨_, rfl⟩
                      obtain ⟨cb, hcb2⟩ : ∃ cb, cntN nm M = cb := ⟨_, rfl⟩
                      rw [hca2] at hca hcc
                      rw [hcb2] at hcb hcc
                      rw [hca2, hcb2]
                      have i8 : (L.length : Int) - (ca : Int) = (M.length : Int) - (cb : Int) := by omega
                      go_wp2_with (go_at_call 12; refine (HBG8.out w8 (Below.refl _ _)).mono ?_; rintro e w9 ⟨rfl, hb9⟩)
                      go_ret
                      exact ⟨rfl, HN8.out.trans (hb9.mono HN8.out.size)⟩
          · have k2 : (apErr l (offE (i : Int)) != 0) = true := by simpa using hap
            have HAP5 := Lib.hid (HAP4.out.mono (R' := fun e w' => Below w4.heap.size w4 w' ∧ e = .returned (.tuple #[.agg #[.slice none 0 0, .bool false], .int .i64 0, .int .i64 (apErr l (offE (i : Int)))])) fun e w' h => ⟨h.1, (h.2.resolve_right fun h => hap h.1).2⟩)
            clear hap HAP4
            generalize apErr l (offE (i : Int)) = er at *
            go_wp2_with (first | (go_at_call 23; refine HAP5.out.mono ?_; rintro e w5 ⟨hb5, rfl⟩; have HB5 := Lib.hid (H4.out.below.trans (hb5.mono H4.out.below.size)); clear hb5) | (go_at_call 12; refine (HBG.out _ (HB5.out.trans (balloc (Below.refl _ _) _ |>.mono HB5.out.size))).mono ?_; rintro e w6 ⟨rfl, hb6⟩))
            go_ret
            exact ⟨rfl, (HB5.out.trans (balloc (Below.refl _ _) _ |>.mono HB5.out.size)).trans (hb6.mono (Nat.le_trans HB5.out.size (by simp)))⟩
        · have HOD2 := Lib.hid (HOD.out.mono (R' := fun e w' => Below w3.heap.size w3 w' ∧ e = .returned (.tuple #[.int .i64 0, .bool false, .int .i64 (ctrlE l nn (⟨#[32, 105, 110, 112, 117, 116, 32, 116, 101, 120, 116, 97, 114, 101, 97, 32, 115, 101, 108, 101, 99, 116, 32, 98, 117, 116, 116, 111, 110, 32]⟩ : ByteArray))])) fun e w' h => ⟨h.1, (h.2.resolve_right fun h => hco h.1).2⟩)
          have k1 : (ctrlE l nn (⟨#[32, 105, 110, 112, 117, 116, 32, 116, 101, 120, 116, 97, 114, 101, 97, 32, 115, 101, 108, 101, 99, 116, 32, 98, 117, 116, 116, 111, 110, 32]⟩ : ByteArray) != 0) = true := by simpa using hco
          have HCO := Lib.hid hco
          clear HOD hco
          generalize ctrlE l nn (⟨#[32, 105, 110, 112, 117, 116, 32, 116, 101, 120, 116, 97, 114, 101, 97, 32, 115, 101, 108, 101, 99, 116, 32, 98, 117, 116, 116, 111, 110, 32]⟩ : ByteArray) = ce at *
          go_upto_region 11 with (go_at_call 22; refine HOD2.out.mono ?_; rintro e w4 ⟨hb4, rfl⟩)
          have H4 := Lib.hid (H3.out.next hb4)
          have HAP4 := Lib.hid ((HAP.out w4 hb4).mono (R' := fun e w' => Below w4.heap.size w4 w' ∧ ∃ A' n' c' q' m' er, e = .returned (.tuple #[.agg #[.slice A' n' c', .bool q'], .int .i64 m', .int .i64 er])) fun e w' h => ⟨h.1, by
            rcases h.2 with ⟨_, h⟩ | ⟨_, A', c', h, _⟩
            · exact ⟨_, _, _, _, _, _, h⟩
            · exact ⟨_, _, _, _, _, _, h⟩⟩)
          have z0 := H4.out.c0
          have z1 := H4.out.c1
          clear hb4 H3 HS3 HAP HOD2 HCO
          go_wp2_with (first | (go_at_call 23; refine HAP4.out.mono ?_; rintro e w5 ⟨hb5, A', n', c', q', m', er, rfl⟩; have HB5 := Lib.hid (H4.out.below.trans (hb5.mono H4.out.below.size)); clear hb5) | (go_at_call 12; refine (HBG.out _ (HB5.out.trans (balloc (Below.refl _ _) _ |>.mono HB5.out.size))).mono ?_; rintro e w6 ⟨rfl, hb6⟩))
          go_ret
          exact ⟨rfl, (HB5.out.trans (balloc (Below.refl _ _) _ |>.mono HB5.out.size)).trans (hb6.mono (Nat.le_trans HB5.out.size (by simp)))⟩
end Go.Proofs.YtpbngckplbnahaaGreatDoor
