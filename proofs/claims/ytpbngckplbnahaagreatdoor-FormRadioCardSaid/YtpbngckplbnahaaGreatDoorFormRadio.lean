/-
The walk of FormRadio: of radio buttons of one name one at most is told.
-/
import Derived.Test.YtpbngckplbnahaaGreatDoorRadKit
import Derived.Test.YtpbngckplbnahaaGreatDoorFormBegun
namespace Go.Proofs.YtpbngckplbnahaaGreatDoor
open Go.RowKit Go.Cl
attribute [local go_sem ↓] Go.wp_at_zero Go.wp_at_succ

theorem bool_get {w : World} {D : Nat → Prop} {A : Option Addr} {n c : Nat} {l : List Bool} (h : Sl tBool w D A n c l) {i : Nat} {x : Bool} (hx : l[i]? = some x) :
    ∃ g o, A = some ⟨g, o, none⟩ ∧ D g ∧ w.cell? ⟨g, o + i, none⟩ = some (.bool x) := by
  obtain ⟨g, o, cs, rfl, hD, hr, hc⟩ := h.get hx
  obtain rfl : cs = [.bool x] := hr
  have h0 := hc 0 _ rfl
  have e : o + (i * tBool.size + 0) = o + i := by show o + (i * 1 + 0) = _; omega
  rw [e] at h0
  exact ⟨g, o, rfl, hD, h0⟩
/-- A letter is not below an earlier one. -/
theorem lt_no {v : ByteArray} {i j : Nat} (hv : v.toList = [(97 + j).toUInt8]) (h : i ≤ j) (hj : j < 10) : Op.bytesLess v.toList ((⟨#[97, 98, 99, 100, 101, 102, 103, 104, 105, 106]⟩ : ByteArray).extract i (i + 1)).toList = false := by
  rw [hv]
  have : ∀ j, j < 10 → ∀ i, i < 10 → i ≤ j → Op.bytesLess [(97 + j).toUInt8] ((⟨#[97, 98, 99, 100, 101, 102, 103, 104, 105, 106]⟩ : ByteArray).extract i (i + 1)).toList = false := by decide +kernel
  exact this j hj i (by omega) h
set_option maxRecDepth 100000 in
set_option maxHeartbeats 16000000 in
theorem formRadio_walk (A : Option Addr) (n c : Nat) (l : List Bool) (req : Bool) (w : World) (B : Nat) (hl : Sl tBool w (lt B) A n c l) (hB : B ≤ w.heap.size) (hE : Env w) :
    Calls Tryz.prog 3 #[.slice A n c, .bool req] w fun e w' => e = .returned (.bool true) ∧ Below w.heap.size w w' := by
  obtain ⟨k, hk, hkc, hkn⟩ : ∃ k : Nat, min (n : Int) 10 = (k : Int) ∧ k ≤ c ∧ k ≤ n := ⟨min n 10, by omega, by have := hl.hc; omega, by omega⟩
  have hk10 : k ≤ 10 := by omega
  have HL := Lib.hid (hl.cut_to hkn)
  have HE := Lib.hid hE
  have hlk : (l.take k).length = k := by have := hl.hn; rw [List.length_take]; omega
  clear hl hE
  generalize l.take k = cs at *
  obtain ⟨c0, ps0, hr0, rfl⟩ := rad_start (w0 := w) (w := w) (Nat.le_refl _) (Below.refl _ _) req
  obtain ⟨w0, hw0⟩ : ∃ w0, w0 = (((w.alloc (.cells #[.int .i64 1] 3)).alloc (.cells #[.int .i64 1, .string ⟨#[]⟩, .slice none 0 0, .string ⟨#[]⟩, .int .i64 (-1), .slice (some ⟨w.heap.size, 0, none⟩) 1 1, .int .i64 2, .string (⟨#[102, 111, 114, 109]⟩ : ByteArray), .slice none 0 0, .string ⟨#[]⟩, .int .i64 0, .slice none 0 0] 26)).alloc (.cells #[.slice (some ⟨w.heap.size + 1, 0, none⟩) 2 2, .bool false] 29)) := ⟨_, rfl⟩
  rw [← hw0] at hr0
  have HR0 := Lib.hid hr0
  clear hr0
  go_enter Tryz.func3, Tryz.ntmps3
  go_upto_region 5 with fail
  rw [← hw0]
  clear hw0
  generalize w.heap.size + 1 + 1 = E at *
  go_loopw [6, 7] (fun s t wr => ∃ (j g c2 : Nat) (ps : List (Value × Value)), j ≤ k ∧ t = .int .i64 (j : Int) ∧ s = .bool ((cs.take j).any id) ∧ Hid (Rb w wr E g c2 ps (radD req (cs.take j)))) (fun _ t _ => k - (intOf t).toNat)
  case atStart => exact ⟨0, _, _, _, Nat.zero_le _, rfl, rfl, HR0⟩
  case round =>
    obtain ⟨j, g, c2, ps, hj, rfl, rfl, HR⟩ := hrel
    clear HR0
    by_cases hjk : j < k
    · obtain ⟨ch, hch⟩ : ∃ ch, cs[j]? = some ch := get_some (by omega)
      obtain ⟨b1, o1, rfl, hb1, x1⟩ := bool_get (HL.out.below HR.out.low hB) hch
      have i5 : (0 : Int) ≤ (j : Int) := by omega
      have i6 : (j : Int) < (k : Int) := by omega
      have i7 : (j : Int) < 10 := by omega
      have HLT := Lib.hid (letter_at j (by omega))
      have HX2 := Lib.hid (rx_start wr j)
      go_upto_region 8 with fail
      rw [HLT.out]
      generalize (wr.alloc (.cells #[.string (⟨#[116, 121, 112, 101]⟩ : ByteArray), .string (⟨#[82, 65, 68, 73, 79]⟩ : ByteArray), .string (⟨#[110, 97, 109, 101]⟩ : ByteArray), .string (⟨#[114]⟩ : ByteArray), .string (⟨#[118, 97, 108, 117, 101]⟩ : ByteArray), .string ⟨#[(97 + j).toUInt8]⟩] 31)).alloc (.cells #[.int .i64 2, .string (⟨#[105, 110, 112, 117, 116]⟩ : ByteArray), .slice (some ⟨wr.heap.size, 0, none⟩) 3 3, .string ⟨#[]⟩, .int .i64 1, .slice none 0 0] 26) = w2 at *
      generalize wr.heap.size + 1 = X at *
      have x2 := cell_be x1 HX2.out.low
      clear x1 HLT
      obtain ⟨ats, hats⟩ : ∃ ats : List DAttr, [((⟨#[116, 121, 112, 101]⟩ : ByteArray), (⟨#[82, 65, 68, 73, 79]⟩ : ByteArray)), ((⟨#[110, 97, 109, 101]⟩ : ByteArray), (⟨#[114]⟩ : ByteArray)), ((⟨#[118, 97, 108, 117, 101]⟩ : ByteArray), (⟨#[(97 + j).toUInt8]⟩ : ByteArray))] = ats := ⟨_, rfl⟩
      have hal : ats.length = 3 := by rw [← hats]; rfl
      have HATS := Lib.hid hats
      rw [hats] at HX2
      rw [show (Value.slice (some ⟨wr.heap.size, 0, none⟩) 3 3) = .slice (some ⟨wr.heap.size, 0, none⟩) ats.length 3 from by rw [hal]]
      clear hats
      obtain ⟨A0, hA0⟩ : ∃ A0 : Option Addr, some ⟨wr.heap.size, 0, none⟩ = A0 := ⟨_, rfl⟩
      obtain ⟨c0, hc0⟩ : ∃ c0 : Nat, 3 = c0 := ⟨_, rfl⟩
      rw [hA0, hc0] at HX2
      rw [hA0, show (Value.slice A0 ats.length 3) = .slice A0 ats.length c0 from by rw [hc0]]
      clear hA0 hc0
      have HTS := Lib.hid (take_snoc hch)
      have HTK : Hid ((cs.take j).length = j) := by show (cs.take j).length = j; rw [List.length_take]; omega
      obtain ⟨D, hD⟩ : ∃ D, radD req (cs.take j) = D := ⟨_, rfl⟩
      have hDL : D.length = j + 2 := by rw [← hD]; simp [radD, HTK.out]
      obtain ⟨yF, hY0⟩ : ∃ yF, radF j = yF := ⟨_, rfl⟩
      have HYF : Hid (D[1]? = some yF) := by show D[1]? = some yF; rw [← hD, ← hY0]; show some (radF (cs.take j).length) = some (radF j); rw [HTK.out]
      have hYk : yF.kids.length = j := by rw [← hY0]; simp [radF, radK]
      have HD := Lib.hid hD.symm
      have HDL := Lib.hid hDL
      have HY0 := Lib.hid hY0
      rw [hD] at HR
      have HXG : Hid (wr.heap.size ≤ X → X ≠ g) := fun h e => by have := HR.out.at_.gs.2; omega
      have i9 : (1 : Int) < (D.length : Int) := by omega
      have HYK := Lib.hid hYk
      have HAL := Lib.hid hal
      clear hD hY0 hDL hYk hal
      cases ch with
      | false =>
        cases req with
        | false =>
          have HAN := Lib.hid (show (cs.take (j + 1)).any id = (cs.take j).any id from by rw [HTS.out, List.any_append]; simp)
          go_upto_region 11 with fail
          go_upto_region 13 with fail
          have HALF := HAL
          have HATF := Lib.hid (show ats = (radN false j false).attrs from by rw [← HATS.out]; rfl)
          have HRB := Lib.hid (HR.out.next HX2.out.low)
          obtain ⟨p1, Ak, ck, An, cn, w7, hp1, x5, hrun, fk, xk, xE, hrb, hbox, hatt⟩ := HRB.out.grow HYF.out (z := (D.length : Int)) (WalkArith.wf_i64 (by have := HDL.out; omega)) (by have := HYK.out; omega)
          have hbx7 := hbox X _ (HXG.out (Rx.far HX2.out)) HX2.out.box
          have HX8 := Lib.hid hbx7.2
          have HO8 := Lib.hid (hatt _ _ _ _ HX2.out.own)
          have HP1 := Lib.hid hp1
          have HRB8 := Lib.hid hrb
          have x5 : w2.cell? ⟨g, 11, none⟩ = some (.slice Ak yF.kids.length ck) := x5
          have xk : w7.cell? ⟨g, 11, none⟩ = some (.slice Ak yF.kids.length ck) := xk
          have fk : w7.frozen? ⟨g, 11, none⟩ = false := fk
          have e0 := HRB.out.at_.c0
          clear hp1 hbx7 hrb hbox hatt
          refine wp_region_G (S := fun w' : World => w'.cell? ⟨E, 0, none⟩ = some (.slice (some ⟨g, 0, none⟩) D.length c2) ∧ w'.cell? ⟨g, 11, none⟩ = some (.slice Ak yF.kids.length ck)) (T := [14]) (by kernel_rfl) ?_
          have hS : (fun w' : World => w'.cell? ⟨E, 0, none⟩ = some (.slice (some ⟨g, 0, none⟩) D.length c2) ∧ w'.cell? ⟨g, 11, none⟩ = some (.slice Ak yF.kids.length ck)) w2.drew := ⟨e0, x5⟩
          refine wpAnyG_take (i := 0) (v := ?_) rfl (by kernel_rfl) (by kernel_rfl) (by kernel_rfl) (by kernel_rfl) (fun _ _ _ h => h) hS rfl ?_ ?_
          rotate_left
          · intro w' hSw
            (try dsimp only at hSw)
            first | (go_simp; done) | (go_simp; with_reducible rfl)
          refine wpAnyG_take (i := 1) (v := ?_) rfl (by kernel_rfl) (by kernel_rfl) (by kernel_rfl) (by kernel_rfl) (fun _ _ _ h => h) hS rfl ?_ ?_
          rotate_left
          · intro w' hSw
            (try dsimp only at hSw)
            first | (go_simp; done) | (go_simp; with_reducible rfl)
          refine wpAnyG_take (i := 2) (v := ?_) rfl (by kernel_rfl) (by kernel_rfl) (by kernel_rfl) (by kernel_rfl) (fun _ _ _ h => h) hS rfl ?_ ?_
          rotate_left
          · intro w' hSw
            (try dsimp only at hSw)
            first | (go_simp; done) | (go_simp; with_reducible rfl)
          refine wpAnyG_take (i := 3) (v := ?_) rfl (by kernel_rfl) (by kernel_rfl) (by kernel_rfl) (by kernel_rfl) (fun _ _ _ h => h) hS rfl ?_ ?_
          rotate_left
          · intro w' hSw
            (try dsimp only at hSw)
            first | (go_simp; done) | (go_simp; with_reducible rfl)
          refine wpAnyG_take (i := 4) (v := ?_) rfl (by kernel_rfl) (by kernel_rfl) (by kernel_rfl) (by kernel_rfl) (fun _ _ _ h => h) hS rfl ?_ ?_
          rotate_left
          · intro w' hSw
            (try dsimp only at hSw)
            first | (go_simp; done) | (go_simp; with_reducible rfl)
          refine wpAnyG_take (i := 5) (v := ?_) rfl (by kernel_rfl) (by kernel_rfl) (by kernel_rfl) (by kernel_rfl) (fun _ _ _ h => h) hS rfl ?_ ?_
          rotate_left
          · intro w' hSw
            (try dsimp only at hSw)
            first | (go_simp; done) | (go_simp; with_reducible rfl)
          refine wpAnyG_take (i := 6) (v := ?_) rfl (by kernel_rfl) (by kernel_rfl) (by kernel_rfl) (by kernel_rfl) (fun _ _ _ h => h) hS rfl ?_ ?_
          rotate_left
          · intro w' hSw
            (try dsimp only at hSw)
            first | (go_simp; done) | (go_simp; with_reducible rfl)
          refine wpAnyG_take (i := 7) (v := ?_) rfl (by kernel_rfl) (by kernel_rfl) (by kernel_rfl) (by kernel_rfl) (fun _ _ _ h => h) hS rfl ?_ ?_
          rotate_left
          · intro w' hSw
            (try dsimp only at hSw)
            first | (go_simp; done) | (go_simp; with_reducible rfl)
          refine wpAnyG_take (i := 8) (v := ?_) rfl (by kernel_rfl) (by kernel_rfl) (by kernel_rfl) (by kernel_rfl) (fun _ _ _ h => h) hS rfl ?_ ?_
          rotate_left
          · intro w' hSw
            (try dsimp only at hSw)
            first | (go_simp; done) | (go_simp; with_reducible rfl)
          refine wpAnyG_take (i := 9) (v := ?_) rfl (by kernel_rfl) (by kernel_rfl) (by kernel_rfl) (by kernel_rfl) (fun _ _ _ h => h) hS rfl ?_ ?_
          rotate_left
          · intro w' hSw
            (try dsimp only at hSw)
            first | (go_simp; done) | (go_simp; with_reducible rfl)
          refine wpAnyG_one (i := 10) (by kernel_rfl) rfl rfl (fun K hK => ?_)
          go_simp
          refine hK.out _ _ (fun _ _ => ⟨cell_al (w := w2.drew) e0 _, cell_al (w := w2.drew) x5 _⟩) ?_
          clear hK K hS
          refine wpAnyG_one (i := 11) (by kernel_rfl) rfl rfl (fun K hK => ?_)
          refine wp_append_runI (.tmp 62) (.tmp 66) 23 rfl (.slice Ak yF.kids.length ck) (.slice (some ⟨w2.heap.size, 0, none⟩) 1 1) rfl rfl hrun ?_
          refine hK.out _ _ (fun _ _ => ⟨xE, xk⟩) ?_
          clear hK K
          have hS : (fun w' : World => w'.cell? ⟨E, 0, none⟩ = some (.slice (some ⟨g, 0, none⟩) D.length c2) ∧ w'.cell? ⟨g, 11, none⟩ = some (.slice Ak yF.kids.length ck)) w7 := ⟨xE, xk⟩
          clear x5 e0 hrun
          refine wpAnyG_one (i := 12) (by kernel_rfl) rfl rfl (fun K hK => ?_)
          go_simp
          refine hK.out _ _ (fun _ h => h) ?_
          clear hK K
          refine wpAnyG_one (i := 13) (by kernel_rfl) rfl rfl (fun K hK => ?_)
          go_simp
          refine hK.out _ _ (fun _ h => h) ?_
          clear hK K
          refine wpAnyG_one (i := 14) (by kernel_rfl) rfl rfl (fun K hK => ?_)
          go_simp
          refine hK.out _ _ (fun h => absurd (by decide) h) ?_
          clear hK K hS
          refine wpAnyG_done (by kernel_rfl) ?_ _
          obtain ⟨w8, hw8⟩ : ∃ w8, w8 = w7.setCell ⟨g, 11, none⟩ (.slice An (yF.kids.length + 1) cn) := ⟨_, rfl⟩
          rw [show w7.setCell ⟨g, 1 * 6 + 5, none⟩ (.slice An (yF.kids.length + 1) cn) = w8 from hw8.symm] at HRB8 HX8 HO8
          rw [← hw8]
          clear hw8 fk xk xE
          obtain ⟨D2, hD2⟩ : ∃ D2, D.set 1 { yF with kids := yF.kids ++ [(D.length : Int)] } = D2 := ⟨_, rfl⟩
          have HDl : Hid (D2.length = D.length) := by show D2.length = D.length; rw [← hD2, List.length_set]
          rw [hD2] at HRB8
          obtain ⟨g2, c9, w9, hrun, fE, cE, hrb⟩ := HRB8.out.more (y := ⟨2, (⟨#[105, 110, 112, 117, 116]⟩ : ByteArray), ats, ⟨#[]⟩, 1, []⟩) (A' := A0) (c' := c0) (by have := HDl.out; have := HDL.out; omega) ⟨(show (Lit.int .i64 2).wf = true by decide), (show 5 ≤ 1152921504606846976 by decide), (show 0 ≤ 1152921504606846976 by decide), (show (Lit.int .i64 1).wf = true by decide), (show (ats).length ≤ 2000000000 by have := HALF.out; omega), Nat.zero_le _⟩ rfl (Own.down HO8.out HR.out.low.size) (fun i q b hq hb e => by
            have h9 := (Own.lt HO8.out b e).1
            have h8 : b < wr.heap.size := by
              by_cases e2 : 1 = i
              · subst e2
                rw [List.getElem?_set_self (List.getElem?_eq_some_iff.1 HP1.out).1] at hq
                obtain rfl := Option.some.inj hq
                exact HR.out.before HP1.out hb
              · rw [List.getElem?_set_ne e2] at hq
                exact HR.out.before hq hb
            omega)
          have HRUN := Lib.hid hrun
          have HRB9 := Lib.hid hrb
          have hx8 := HX8.out
          have k0 := cell_blk (i := 0) hx8 rfl
          have k1 := cell_blk (i := 1) hx8 rfl
          have k2 := cell_blk (i := 2) hx8 rfl
          have k3 := cell_blk (i := 3) hx8 rfl
          have k4 := cell_blk (i := 4) hx8 rfl
          have k5 := cell_blk (i := 5) hx8 rfl
          have e0 := HRB8.out.at_.c0
          clear hx8 hrun hrb
          go_upto_region 6 with (at_builtin; refine wpList_append_runI (by rfl) (.tmp 71) (.tmp 73) 27 rfl (.slice (some ⟨g, 0, none⟩) D2.length c2) (.slice (some ⟨w8.heap.size, 0, none⟩) 1 1) rfl rfl HRUN.out ?_)
          clear k0 k1 k2 k3 k4 k5 e0 fE cE
          have HNX := Lib.hid (show D2 ++ [(⟨2, (⟨#[105, 110, 112, 117, 116]⟩ : ByteArray), ats, ⟨#[]⟩, 1, []⟩ : Nd)] = radD false (cs.take (j + 1)) from by
            have h := rad_next false (cs.take j) false
            rw [HTK.out] at h
            rw [← hD2, HTS.out, ← h, HDL.out, HD.out, ← HY0.out, HATF.out]
            rfl)
          rw [HNX.out] at HRB9
          clear HNX hD2
          go_wp2_with fail
          go_roundw
          case rel => exact ⟨j + 1, g2, c9, _, by omega, by go_num, by rw [HAN.out], HRB9⟩
          case measure => simp [intOf]; omega
        | true =>
          have HAN := Lib.hid (show (cs.take (j + 1)).any id = (cs.take j).any id from by rw [HTS.out, List.any_append]; simp)
          go_upto_region 11 with fail
          obtain ⟨A6, c60, v6, hrun6, f6, d6, hx6⟩ := HX2.out.add (by have := HAL.out; omega) (⟨#[114, 101, 113, 117, 105, 114, 101, 100]⟩ : ByteArray) (by decide)
          have HR6 := Lib.hid hrun6
          have HX6 := Lib.hid hx6
          have b6 := HX2.out.c2
          clear hrun6 hx6
          go_upto_region 13 with (at_builtin; go_loud (refine wpList_append_runI (by rfl) (.tmp 51) (.tmp 53) 24 rfl (.slice A0 ats.length c0) (.slice (some ⟨w2.heap.size, 0, none⟩) 1 1) rfl rfl HR6.out ?_))
          clear f6 d6 b6
          obtain ⟨ats6, hats6⟩ : ∃ a, ats ++ [((⟨#[114, 101, 113, 117, 105, 114, 101, 100]⟩ : ByteArray), (⟨#[]⟩ : ByteArray))] = a := ⟨_, rfl⟩
          have HAL6 : Hid (ats6.length = 4) := by show ats6.length = 4; have := HAL.out; rw [← hats6]; simp; omega
          rw [hats6] at HX6
          have HATS6 := Lib.hid hats6
          clear hats6
          generalize v6.setCell ⟨X, 2, none⟩ (.slice A6 (ats.length + 1) c60) = u6 at *
          have HALF := HAL6
          have HATF := Lib.hid (show ats6 = (radN true j false).attrs from by rw [← HATS6.out, ← HATS.out]; rfl)
          have HRB := Lib.hid (HR.out.next HX6.out.low)
          obtain ⟨p1, Ak, ck, An, cn, w7, hp1, x5, hrun, fk, xk, xE, hrb, hbox, hatt⟩ := HRB.out.grow HYF.out (z := (D.length : Int)) (WalkArith.wf_i64 (by have := HDL.out; omega)) (by have := HYK.out; omega)
          have hbx7 := hbox X _ (HXG.out (Rx.far HX6.out)) HX6.out.box
          have HX8 := Lib.hid hbx7.2
          have HO8 := Lib.hid (hatt _ _ _ _ HX6.out.own)
          have HP1 := Lib.hid hp1
          have HRB8 := Lib.hid hrb
          have x5 : u6.cell? ⟨g, 11, none⟩ = some (.slice Ak yF.kids.length ck) := x5
          have xk : w7.cell? ⟨g, 11, none⟩ = some (.slice Ak yF.kids.length ck) := xk
          have fk : w7.frozen? ⟨g, 11, none⟩ = false := fk
          have e0 := HRB.out.at_.c0
          clear hp1 hbx7 hrb hbox hatt
          refine wp_region_G (S := fun w' : World => w'.cell? ⟨E, 0, none⟩ = some (.slice (some ⟨g, 0, none⟩) D.length c2) ∧ w'.cell? ⟨g, 11, none⟩ = some (.slice Ak yF.kids.length ck)) (T := [14]) (by kernel_rfl) ?_
          have hS : (fun w' : World => w'.cell? ⟨E, 0, none⟩ = some (.slice (some ⟨g, 0, none⟩) D.length c2) ∧ w'.cell? ⟨g, 11, none⟩ = some (.slice Ak yF.kids.length ck)) u6.drew := ⟨e0, x5⟩
          refine wpAnyG_take (i := 0) (v := ?_) rfl (by kernel_rfl) (by kernel_rfl) (by kernel_rfl) (by kernel_rfl) (fun _ _ _ h => h) hS rfl ?_ ?_
          rotate_left
          · intro w' hSw
            (try dsimp only at hSw)
            first | (go_simp; done) | (go_simp; with_reducible rfl)
          refine wpAnyG_take (i := 1) (v := ?_) rfl (by kernel_rfl) (by kernel_rfl) (by kernel_rfl) (by kernel_rfl) (fun _ _ _ h => h) hS rfl ?_ ?_
          rotate_left
          · intro w' hSw
            (try dsimp only at hSw)
            first | (go_simp; done) | (go_simp; with_reducible rfl)
          refine wpAnyG_take (i := 2) (v := ?_) rfl (by kernel_rfl) (by kernel_rfl) (by kernel_rfl) (by kernel_rfl) (fun _ _ _ h => h) hS rfl ?_ ?_
          rotate_left
          · intro w' hSw
            (try dsimp only at hSw)
            first | (go_simp; done) | (go_simp; with_reducible rfl)
          refine wpAnyG_take (i := 3) (v := ?_) rfl (by kernel_rfl) (by kernel_rfl) (by kernel_rfl) (by kernel_rfl) (fun _ _ _ h => h) hS rfl ?_ ?_
          rotate_left
          · intro w' hSw
            (try dsimp only at hSw)
            first | (go_simp; done) | (go_simp; with_reducible rfl)
          refine wpAnyG_take (i := 4) (v := ?_) rfl (by kernel_rfl) (by kernel_rfl) (by kernel_rfl) (by kernel_rfl) (fun _ _ _ h => h) hS rfl ?_ ?_
          rotate_left
          · intro w' hSw
            (try dsimp only at hSw)
            first | (go_simp; done) | (go_simp; with_reducible rfl)
          refine wpAnyG_take (i := 5) (v := ?_) rfl (by kernel_rfl) (by kernel_rfl) (by kernel_rfl) (by kernel_rfl) (fun _ _ _ h => h) hS rfl ?_ ?_
          rotate_left
          · intro w' hSw
            (try dsimp only at hSw)
            first | (go_simp; done) | (go_simp; with_reducible rfl)
          refine wpAnyG_take (i := 6) (v := ?_) rfl (by kernel_rfl) (by kernel_rfl) (by kernel_rfl) (by kernel_rfl) (fun _ _ _ h => h) hS rfl ?_ ?_
          rotate_left
          · intro w' hSw
            (try dsimp only at hSw)
            first | (go_simp; done) | (go_simp; with_reducible rfl)
          refine wpAnyG_take (i := 7) (v := ?_) rfl (by kernel_rfl) (by kernel_rfl) (by kernel_rfl) (by kernel_rfl) (fun _ _ _ h => h) hS rfl ?_ ?_
          rotate_left
          · intro w' hSw
            (try dsimp only at hSw)
            first | (go_simp; done) | (go_simp; with_reducible rfl)
          refine wpAnyG_take (i := 8) (v := ?_) rfl (by kernel_rfl) (by kernel_rfl) (by kernel_rfl) (by kernel_rfl) (fun _ _ _ h => h) hS rfl ?_ ?_
          rotate_left
          · intro w' hSw
            (try dsimp only at hSw)
            first | (go_simp; done) | (go_simp; with_reducible rfl)
          refine wpAnyG_take (i := 9) (v := ?_) rfl (by kernel_rfl) (by kernel_rfl) (by kernel_rfl) (by kernel_rfl) (fun _ _ _ h => h) hS rfl ?_ ?_
          rotate_left
          · intro w' hSw
            (try dsimp only at hSw)
            first | (go_simp; done) | (go_simp; with_reducible rfl)
          refine wpAnyG_one (i := 10) (by kernel_rfl) rfl rfl (fun K hK => ?_)
          go_simp
          refine hK.out _ _ (fun _ _ => ⟨cell_al (w := u6.drew) e0 _, cell_al (w := u6.drew) x5 _⟩) ?_
          clear hK K hS
          refine wpAnyG_one (i := 11) (by kernel_rfl) rfl rfl (fun K hK => ?_)
          refine wp_append_runI (.tmp 62) (.tmp 66) 23 rfl (.slice Ak yF.kids.length ck) (.slice (some ⟨u6.heap.size, 0, none⟩) 1 1) rfl rfl hrun ?_
          refine hK.out _ _ (fun _ _ => ⟨xE, xk⟩) ?_
          clear hK K
          have hS : (fun w' : World => w'.cell? ⟨E, 0, none⟩ = some (.slice (some ⟨g, 0, none⟩) D.length c2) ∧ w'.cell? ⟨g, 11, none⟩ = some (.slice Ak yF.kids.length ck)) w7 := ⟨xE, xk⟩
          clear x5 e0 hrun
          refine wpAnyG_one (i := 12) (by kernel_rfl) rfl rfl (fun K hK => ?_)
          go_simp
          refine hK.out _ _ (fun _ h => h) ?_
          clear hK K
          refine wpAnyG_one (i := 13) (by kernel_rfl) rfl rfl (fun K hK => ?_)
          go_simp
          refine hK.out _ _ (fun _ h => h) ?_
          clear hK K
          refine wpAnyG_one (i := 14) (by kernel_rfl) rfl rfl (fun K hK => ?_)
          go_simp
          refine hK.out _ _ (fun h => absurd (by decide) h) ?_
          clear hK K hS
          refine wpAnyG_done (by kernel_rfl) ?_ _
          obtain ⟨w8, hw8⟩ : ∃ w8, w8 = w7.setCell ⟨g, 11, none⟩ (.slice An (yF.kids.length + 1) cn) := ⟨_, rfl⟩
          rw [show w7.setCell ⟨g, 1 * 6 + 5, none⟩ (.slice An (yF.kids.length + 1) cn) = w8 from hw8.symm] at HRB8 HX8 HO8
          rw [← hw8]
          clear hw8 fk xk xE
          obtain ⟨D2, hD2⟩ : ∃ D2, D.set 1 { yF with kids := yF.kids ++ [(D.length : Int)] } = D2 := ⟨_, rfl⟩
          have HDl : Hid (D2.length = D.length) := by show D2.length = D.length; rw [← hD2, List.length_set]
          rw [hD2] at HRB8
          obtain ⟨g2, c9, w9, hrun, fE, cE, hrb⟩ := HRB8.out.more (y := ⟨2, (⟨#[105, 110, 112, 117, 116]⟩ : ByteArray), ats6, ⟨#[]⟩, 1, []⟩) (A' := A6) (c' := c60) (by have := HDl.out; have := HDL.out; omega) ⟨(show (Lit.int .i64 2).wf = true by decide), (show 5 ≤ 1152921504606846976 by decide), (show 0 ≤ 1152921504606846976 by decide), (show (Lit.int .i64 1).wf = true by decide), (show (ats6).length ≤ 2000000000 by have := HALF.out; omega), Nat.zero_le _⟩ rfl (Own.down HO8.out HR.out.low.size) (fun i q b hq hb e => by
            have h9 := (Own.lt HO8.out b e).1
            have h8 : b < wr.heap.size := by
              by_cases e2 : 1 = i
              · subst e2
                rw [List.getElem?_set_self (List.getElem?_eq_some_iff.1 HP1.out).1] at hq
                obtain rfl := Option.some.inj hq
                exact HR.out.before HP1.out hb
              · rw [List.getElem?_set_ne e2] at hq
                exact HR.out.before hq hb
            omega)
          have HRUN := Lib.hid hrun
          have HRB9 := Lib.hid hrb
          have hx8 := HX8.out
          have k0 := cell_blk (i := 0) hx8 rfl
          have k1 := cell_blk (i := 1) hx8 rfl
          have k2 := cell_blk (i := 2) hx8 rfl
          have k3 := cell_blk (i := 3) hx8 rfl
          have k4 := cell_blk (i := 4) hx8 rfl
          have k5 := cell_blk (i := 5) hx8 rfl
          have e0 := HRB8.out.at_.c0
          clear hx8 hrun hrb
          go_upto_region 6 with (at_builtin; refine wpList_append_runI (by rfl) (.tmp 71) (.tmp 73) 27 rfl (.slice (some ⟨g, 0, none⟩) D2.length c2) (.slice (some ⟨w8.heap.size, 0, none⟩) 1 1) rfl rfl HRUN.out ?_)
          clear k0 k1 k2 k3 k4 k5 e0 fE cE
          have HNX := Lib.hid (show D2 ++ [(⟨2, (⟨#[105, 110, 112, 117, 116]⟩ : ByteArray), ats6, ⟨#[]⟩, 1, []⟩ : Nd)] = radD true (cs.take (j + 1)) from by
            have h := rad_next true (cs.take j) false
            rw [HTK.out] at h
            rw [← hD2, HTS.out, ← h, HDL.out, HD.out, ← HY0.out, HATF.out]
            rfl)
          rw [HNX.out] at HRB9
          clear HNX hD2
          go_wp2_with fail
          go_roundw
          case rel => exact ⟨j + 1, g2, c9, _, by omega, by go_num, by rw [HAN.out], HRB9⟩
          case measure => simp [intOf]; omega
      | true =>
        cases req with
        | false =>
          have HAN := Lib.hid (show (cs.take (j + 1)).any id = true from by rw [HTS.out, List.any_append]; simp)
          obtain ⟨A5, c50, v5, hrun5, f5, d5, hx5⟩ := HX2.out.add (by have := HAL.out; omega) (⟨#[99, 104, 101, 99, 107, 101, 100]⟩ : ByteArray) (by decide)
          have HR5 := Lib.hid hrun5
          have HX5 := Lib.hid hx5
          have b5 := HX2.out.c2
          clear hrun5 hx5
          go_upto_region 10 with (at_builtin; go_loud (refine wpList_append_runI (by rfl) (.tmp 44) (.tmp 46) 24 rfl (.slice A0 ats.length c0) (.slice (some ⟨w2.heap.size, 0, none⟩) 1 1) rfl rfl HR5.out ?_))
          clear f5 d5 b5
          obtain ⟨ats5, hats5⟩ : ∃ a, ats ++ [((⟨#[99, 104, 101, 99, 107, 101, 100]⟩ : ByteArray), (⟨#[]⟩ : ByteArray))] = a := ⟨_, rfl⟩
          have HAL5 : Hid (ats5.length = 4) := by show ats5.length = 4; have := HAL.out; rw [← hats5]; simp; omega
          rw [hats5] at HX5
          have HATS5 := Lib.hid hats5
          clear hats5
          generalize v5.setCell ⟨X, 2, none⟩ (.slice A5 (ats.length + 1) c50) = u5 at *
          go_upto_region 11 with fail
          go_upto_region 13 with fail
          have HALF := HAL5
          have HATF := Lib.hid (show ats5 = (radN false j true).attrs from by rw [← HATS5.out, ← HATS.out]; rfl)
          have HRB := Lib.hid (HR.out.next HX5.out.low)
          obtain ⟨p1, Ak, ck, An, cn, w7, hp1, x5, hrun, fk, xk, xE, hrb, hbox, hatt⟩ := HRB.out.grow HYF.out (z := (D.length : Int)) (WalkArith.wf_i64 (by have := HDL.out; omega)) (by have := HYK.out; omega)
          have hbx7 := hbox X _ (HXG.out (Rx.far HX5.out)) HX5.out.box
          have HX8 := Lib.hid hbx7.2
          have HO8 := Lib.hid (hatt _ _ _ _ HX5.out.own)
          have HP1 := Lib.hid hp1
          have HRB8 := Lib.hid hrb
          have x5 : u5.cell? ⟨g, 11, none⟩ = some (.slice Ak yF.kids.length ck) := x5
          have xk : w7.cell? ⟨g, 11, none⟩ = some (.slice Ak yF.kids.length ck) := xk
          have fk : w7.frozen? ⟨g, 11, none⟩ = false := fk
          have e0 := HRB.out.at_.c0
          clear hp1 hbx7 hrb hbox hatt
          refine wp_region_G (S := fun w' : World => w'.cell? ⟨E, 0, none⟩ = some (.slice (some ⟨g, 0, none⟩) D.length c2) ∧ w'.cell? ⟨g, 11, none⟩ = some (.slice Ak yF.kids.length ck)) (T := [14]) (by kernel_rfl) ?_
          have hS : (fun w' : World => w'.cell? ⟨E, 0, none⟩ = some (.slice (some ⟨g, 0, none⟩) D.length c2) ∧ w'.cell? ⟨g, 11, none⟩ = some (.slice Ak yF.kids.length ck)) u5.drew := ⟨e0, x5⟩
          refine wpAnyG_take (i := 0) (v := ?_) rfl (by kernel_rfl) (by kernel_rfl) (by kernel_rfl) (by kernel_rfl) (fun _ _ _ h => h) hS rfl ?_ ?_
          rotate_left
          · intro w' hSw
            (try dsimp only at hSw)
            first | (go_simp; done) | (go_simp; with_reducible rfl)
          refine wpAnyG_take (i := 1) (v := ?_) rfl (by kernel_rfl) (by kernel_rfl) (by kernel_rfl) (by kernel_rfl) (fun _ _ _ h => h) hS rfl ?_ ?_
          rotate_left
          · intro w' hSw
            (try dsimp only at hSw)
            first | (go_simp; done) | (go_simp; with_reducible rfl)
          refine wpAnyG_take (i := 2) (v := ?_) rfl (by kernel_rfl) (by kernel_rfl) (by kernel_rfl) (by kernel_rfl) (fun _ _ _ h => h) hS rfl ?_ ?_
          rotate_left
          · intro w' hSw
            (try dsimp only at hSw)
            first | (go_simp; done) | (go_simp; with_reducible rfl)
          refine wpAnyG_take (i := 3) (v := ?_) rfl (by kernel_rfl) (by kernel_rfl) (by kernel_rfl) (by kernel_rfl) (fun _ _ _ h => h) hS rfl ?_ ?_
          rotate_left
          · intro w' hSw
            (try dsimp only at hSw)
            first | (go_simp; done) | (go_simp; with_reducible rfl)
          refine wpAnyG_take (i := 4) (v := ?_) rfl (by kernel_rfl) (by kernel_rfl) (by kernel_rfl) (by kernel_rfl) (fun _ _ _ h => h) hS rfl ?_ ?_
          rotate_left
          · intro w' hSw
            (try dsimp only at hSw)
            first | (go_simp; done) | (go_simp; with_reducible rfl)
          refine wpAnyG_take (i := 5) (v := ?_) rfl (by kernel_rfl) (by kernel_rfl) (by kernel_rfl) (by kernel_rfl) (fun _ _ _ h => h) hS rfl ?_ ?_
          rotate_left
          · intro w' hSw
            (try dsimp only at hSw)
            first | (go_simp; done) | (go_simp; with_reducible rfl)
          refine wpAnyG_take (i := 6) (v := ?_) rfl (by kernel_rfl) (by kernel_rfl) (by kernel_rfl) (by kernel_rfl) (fun _ _ _ h => h) hS rfl ?_ ?_
          rotate_left
          · intro w' hSw
            (try dsimp only at hSw)
            first | (go_simp; done) | (go_simp; with_reducible rfl)
          refine wpAnyG_take (i := 7) (v := ?_) rfl (by kernel_rfl) (by kernel_rfl) (by kernel_rfl) (by kernel_rfl) (fun _ _ _ h => h) hS rfl ?_ ?_
          rotate_left
          · intro w' hSw
            (try dsimp only at hSw)
            first | (go_simp; done) | (go_simp; with_reducible rfl)
          refine wpAnyG_take (i := 8) (v := ?_) rfl (by kernel_rfl) (by kernel_rfl) (by kernel_rfl) (by kernel_rfl) (fun _ _ _ h => h) hS rfl ?_ ?_
          rotate_left
          · intro w' hSw
            (try dsimp only at hSw)
            first | (go_simp; done) | (go_simp; with_reducible rfl)
          refine wpAnyG_take (i := 9) (v := ?_) rfl (by kernel_rfl) (by kernel_rfl) (by kernel_rfl) (by kernel_rfl) (fun _ _ _ h => h) hS rfl ?_ ?_
          rotate_left
          · intro w' hSw
            (try dsimp only at hSw)
            first | (go_simp; done) | (go_simp; with_reducible rfl)
          refine wpAnyG_one (i := 10) (by kernel_rfl) rfl rfl (fun K hK => ?_)
          go_simp
          refine hK.out _ _ (fun _ _ => ⟨cell_al (w := u5.drew) e0 _, cell_al (w := u5.drew) x5 _⟩) ?_
          clear hK K hS
          refine wpAnyG_one (i := 11) (by kernel_rfl) rfl rfl (fun K hK => ?_)
          refine wp_append_runI (.tmp 62) (.tmp 66) 23 rfl (.slice Ak yF.kids.length ck) (.slice (some ⟨u5.heap.size, 0, none⟩) 1 1) rfl rfl hrun ?_
          refine hK.out _ _ (fun _ _ => ⟨xE, xk⟩) ?_
          clear hK K
          have hS : (fun w' : World => w'.cell? ⟨E, 0, none⟩ = some (.slice (some ⟨g, 0, none⟩) D.length c2) ∧ w'.cell? ⟨g, 11, none⟩ = some (.slice Ak yF.kids.length ck)) w7 := ⟨xE, xk⟩
          clear x5 e0 hrun
          refine wpAnyG_one (i := 12) (by kernel_rfl) rfl rfl (fun K hK => ?_)
          go_simp
          refine hK.out _ _ (fun _ h => h) ?_
          clear hK K
          refine wpAnyG_one (i := 13) (by kernel_rfl) rfl rfl (fun K hK => ?_)
          go_simp
          refine hK.out _ _ (fun _ h => h) ?_
          clear hK K
          refine wpAnyG_one (i := 14) (by kernel_rfl) rfl rfl (fun K hK => ?_)
          go_simp
          refine hK.out _ _ (fun h => absurd (by decide) h) ?_
          clear hK K hS
          refine wpAnyG_done (by kernel_rfl) ?_ _
          obtain ⟨w8, hw8⟩ : ∃ w8, w8 = w7.setCell ⟨g, 11, none⟩ (.slice An (yF.kids.length + 1) cn) := ⟨_, rfl⟩
          rw [show w7.setCell ⟨g, 1 * 6 + 5, none⟩ (.slice An (yF.kids.length + 1) cn) = w8 from hw8.symm] at HRB8 HX8 HO8
          rw [← hw8]
          clear hw8 fk xk xE
          obtain ⟨D2, hD2⟩ : ∃ D2, D.set 1 { yF with kids := yF.kids ++ [(D.length : Int)] } = D2 := ⟨_, rfl⟩
          have HDl : Hid (D2.length = D.length) := by show D2.length = D.length; rw [← hD2, List.length_set]
          rw [hD2] at HRB8
          obtain ⟨g2, c9, w9, hrun, fE, cE, hrb⟩ := HRB8.out.more (y := ⟨2, (⟨#[105, 110, 112, 117, 116]⟩ : ByteArray), ats5, ⟨#[]⟩, 1, []⟩) (A' := A5) (c' := c50) (by have := HDl.out; have := HDL.out; omega) ⟨(show (Lit.int .i64 2).wf = true by decide), (show 5 ≤ 1152921504606846976 by decide), (show 0 ≤ 1152921504606846976 by decide), (show (Lit.int .i64 1).wf = true by decide), (show (ats5).length ≤ 2000000000 by have := HALF.out; omega), Nat.zero_le _⟩ rfl (Own.down HO8.out HR.out.low.size) (fun i q b hq hb e => by
            have h9 := (Own.lt HO8.out b e).1
            have h8 : b < wr.heap.size := by
              by_cases e2 : 1 = i
              · subst e2
                rw [List.getElem?_set_self (List.getElem?_eq_some_iff.1 HP1.out).1] at hq
                obtain rfl := Option.some.inj hq
                exact HR.out.before HP1.out hb
              · rw [List.getElem?_set_ne e2] at hq
                exact HR.out.before hq hb
            omega)
          have HRUN := Lib.hid hrun
          have HRB9 := Lib.hid hrb
          have hx8 := HX8.out
          have k0 := cell_blk (i := 0) hx8 rfl
          have k1 := cell_blk (i := 1) hx8 rfl
          have k2 := cell_blk (i := 2) hx8 rfl
          have k3 := cell_blk (i := 3) hx8 rfl
          have k4 := cell_blk (i := 4) hx8 rfl
          have k5 := cell_blk (i := 5) hx8 rfl
          have e0 := HRB8.out.at_.c0
          clear hx8 hrun hrb
          go_upto_region 6 with (at_builtin; refine wpList_append_runI (by rfl) (.tmp 71) (.tmp 73) 27 rfl (.slice (some ⟨g, 0, none⟩) D2.length c2) (.slice (some ⟨w8.heap.size, 0, none⟩) 1 1) rfl rfl HRUN.out ?_)
          clear k0 k1 k2 k3 k4 k5 e0 fE cE
          have HNX := Lib.hid (show D2 ++ [(⟨2, (⟨#[105, 110, 112, 117, 116]⟩ : ByteArray), ats5, ⟨#[]⟩, 1, []⟩ : Nd)] = radD false (cs.take (j + 1)) from by
            have h := rad_next false (cs.take j) true
            rw [HTK.out] at h
            rw [← hD2, HTS.out, ← h, HDL.out, HD.out, ← HY0.out, HATF.out]
            rfl)
          rw [HNX.out] at HRB9
          clear HNX hD2
          go_wp2_with fail
          go_roundw
          case rel => exact ⟨j + 1, g2, c9, _, by omega, by go_num, by rw [HAN.out], HRB9⟩
          case measure => simp [intOf]; omega
        | true =>
          have HAN := Lib.hid (show (cs.take (j + 1)).any id = true from by rw [HTS.out, List.any_append]; simp)
          obtain ⟨A5, c50, v5, hrun5, f5, d5, hx5⟩ := HX2.out.add (by have := HAL.out; omega) (⟨#[99, 104, 101, 99, 107, 101, 100]⟩ : ByteArray) (by decide)
          have HR5 := Lib.hid hrun5
          have HX5 := Lib.hid hx5
          have b5 := HX2.out.c2
          clear hrun5 hx5
          go_upto_region 10 with (at_builtin; go_loud (refine wpList_append_runI (by rfl) (.tmp 44) (.tmp 46) 24 rfl (.slice A0 ats.length c0) (.slice (some ⟨w2.heap.size, 0, none⟩) 1 1) rfl rfl HR5.out ?_))
          clear f5 d5 b5
          obtain ⟨ats5, hats5⟩ : ∃ a, ats ++ [((⟨#[99, 104, 101, 99, 107, 101, 100]⟩ : ByteArray), (⟨#[]⟩ : ByteArray))] = a := ⟨_, rfl⟩
          have HAL5 : Hid (ats5.length = 4) := by show ats5.length = 4; have := HAL.out; rw [← hats5]; simp; omega
          rw [hats5] at HX5
          have HATS5 := Lib.hid hats5
          clear hats5
          generalize v5.setCell ⟨X, 2, none⟩ (.slice A5 (ats.length + 1) c50) = u5 at *
          go_upto_region 11 with fail
          obtain ⟨A6, c60, v6, hrun6, f6, d6, hx6⟩ := HX5.out.add (by have := HAL5.out; omega) (⟨#[114, 101, 113, 117, 105, 114, 101, 100]⟩ : ByteArray) (by decide)
          have HR6 := Lib.hid hrun6
          have HX6 := Lib.hid hx6
          have b6 := HX5.out.c2
          clear hrun6 hx6
          go_upto_region 13 with (at_builtin; go_loud (refine wpList_append_runI (by rfl) (.tmp 51) (.tmp 53) 24 rfl (.slice A5 ats5.length c50) (.slice (some ⟨u5.heap.size, 0, none⟩) 1 1) rfl rfl HR6.out ?_))
          clear f6 d6 b6
          obtain ⟨ats6, hats6⟩ : ∃ a, ats5 ++ [((⟨#[114, 101, 113, 117, 105, 114, 101, 100]⟩ : ByteArray), (⟨#[]⟩ : ByteArray))] = a := ⟨_, rfl⟩
          have HAL6 : Hid (ats6.length = 5) := by show ats6.length = 5; have := HAL5.out; rw [← hats6]; simp; omega
          rw [hats6] at HX6
          have HATS6 := Lib.hid hats6
          clear hats6
          generalize v6.setCell ⟨X, 2, none⟩ (.slice A6 (ats5.length + 1) c60) = u6 at *
          have HALF := HAL6
          have HATF := Lib.hid (show ats6 = (radN true j true).attrs from by rw [← HATS6.out, ← HATS5.out, ← HATS.out]; rfl)
          have HRB := Lib.hid (HR.out.next HX6.out.low)
          obtain ⟨p1, Ak, ck, An, cn, w7, hp1, x5, hrun, fk, xk, xE, hrb, hbox, hatt⟩ := HRB.out.grow HYF.out (z := (D.length : Int)) (WalkArith.wf_i64 (by have := HDL.out; omega)) (by have := HYK.out; omega)
          have hbx7 := hbox X _ (HXG.out (Rx.far HX6.out)) HX6.out.box
          have HX8 := Lib.hid hbx7.2
          have HO8 := Lib.hid (hatt _ _ _ _ HX6.out.own)
          have HP1 := Lib.hid hp1
          have HRB8 := Lib.hid hrb
          have x5 : u6.cell? ⟨g, 11, none⟩ = some (.slice Ak yF.kids.length ck) := x5
          have xk : w7.cell? ⟨g, 11, none⟩ = some (.slice Ak yF.kids.length ck) := xk
          have fk : w7.frozen? ⟨g, 11, none⟩ = false := fk
          have e0 := HRB.out.at_.c0
          clear hp1 hbx7 hrb hbox hatt
          refine wp_region_G (S := fun w' : World => w'.cell? ⟨E, 0, none⟩ = some (.slice (some ⟨g, 0, none⟩) D.length c2) ∧ w'.cell? ⟨g, 11, none⟩ = some (.slice Ak yF.kids.length ck)) (T := [14]) (by kernel_rfl) ?_
          have hS : (fun w' : World => w'.cell? ⟨E, 0, none⟩ = some (.slice (some ⟨g, 0, none⟩) D.length c2) ∧ w'.cell? ⟨g, 11, none⟩ = some (.slice Ak yF.kids.length ck)) u6.drew := ⟨e0, x5⟩
          refine wpAnyG_take (i := 0) (v := ?_) rfl (by kernel_rfl) (by kernel_rfl) (by kernel_rfl) (by kernel_rfl) (fun _ _ _ h => h) hS rfl ?_ ?_
          rotate_left
          · intro w' hSw
            (try dsimp only at hSw)
            first | (go_simp; done) | (go_simp; with_reducible rfl)
          refine wpAnyG_take (i := 1) (v := ?_) rfl (by kernel_rfl) (by kernel_rfl) (by kernel_rfl) (by kernel_rfl) (fun _ _ _ h => h) hS rfl ?_ ?_
          rotate_left
          · intro w' hSw
            (try dsimp only at hSw)
            first | (go_simp; done) | (go_simp; with_reducible rfl)
          refine wpAnyG_take (i := 2) (v := ?_) rfl (by kernel_rfl) (by kernel_rfl) (by kernel_rfl) (by kernel_rfl) (fun _ _ _ h => h) hS rfl ?_ ?_
          rotate_left
          · intro w' hSw
            (try dsimp only at hSw)
            first | (go_simp; done) | (go_simp; with_reducible rfl)
          refine wpAnyG_take (i := 3) (v := ?_) rfl (by kernel_rfl) (by kernel_rfl) (by kernel_rfl) (by kernel_rfl) (fun _ _ _ h => h) hS rfl ?_ ?_
          rotate_left
          · intro w' hSw
            (try dsimp only at hSw)
            first | (go_simp; done) | (go_simp; with_reducible rfl)
          refine wpAnyG_take (i := 4) (v := ?_) rfl (by kernel_rfl) (by kernel_rfl) (by kernel_rfl) (by kernel_rfl) (fun _ _ _ h => h) hS rfl ?_ ?_
          rotate_left
          · intro w' hSw
            (try dsimp only at hSw)
            first | (go_simp; done) | (go_simp; with_reducible rfl)
          refine wpAnyG_take (i := 5) (v := ?_) rfl (by kernel_rfl) (by kernel_rfl) (by kernel_rfl) (by kernel_rfl) (fun _ _ _ h => h) hS rfl ?_ ?_
          rotate_left
          · intro w' hSw
            (try dsimp only at hSw)
            first | (go_simp; done) | (go_simp; with_reducible rfl)
          refine wpAnyG_take (i := 6) (v := ?_) rfl (by kernel_rfl) (by kernel_rfl) (by kernel_rfl) (by kernel_rfl) (fun _ _ _ h => h) hS rfl ?_ ?_
          rotate_left
          · intro w' hSw
            (try dsimp only at hSw)
            first | (go_simp; done) | (go_simp; with_reducible rfl)
          refine wpAnyG_take (i := 7) (v := ?_) rfl (by kernel_rfl) (by kernel_rfl) (by kernel_rfl) (by kernel_rfl) (fun _ _ _ h => h) hS rfl ?_ ?_
          rotate_left
          · intro w' hSw
            (try dsimp only at hSw)
            first | (go_simp; done) | (go_simp; with_reducible rfl)
          refine wpAnyG_take (i := 8) (v := ?_) rfl (by kernel_rfl) (by kernel_rfl) (by kernel_rfl) (by kernel_rfl) (fun _ _ _ h => h) hS rfl ?_ ?_
          rotate_left
          · intro w' hSw
            (try dsimp only at hSw)
            first | (go_simp; done) | (go_simp; with_reducible rfl)
          refine wpAnyG_take (i := 9) (v := ?_) rfl (by kernel_rfl) (by kernel_rfl) (by kernel_rfl) (by kernel_rfl) (fun _ _ _ h => h) hS rfl ?_ ?_
          rotate_left
          · intro w' hSw
            (try dsimp only at hSw)
            first | (go_simp; done) | (go_simp; with_reducible rfl)
          refine wpAnyG_one (i := 10) (by kernel_rfl) rfl rfl (fun K hK => ?_)
          go_simp
          refine hK.out _ _ (fun _ _ => ⟨cell_al (w := u6.drew) e0 _, cell_al (w := u6.drew) x5 _⟩) ?_
          clear hK K hS
          refine wpAnyG_one (i := 11) (by kernel_rfl) rfl rfl (fun K hK => ?_)
          refine wp_append_runI (.tmp 62) (.tmp 66) 23 rfl (.slice Ak yF.kids.length ck) (.slice (some ⟨u6.heap.size, 0, none⟩) 1 1) rfl rfl hrun ?_
          refine hK.out _ _ (fun _ _ => ⟨xE, xk⟩) ?_
          clear hK K
          have hS : (fun w' : World => w'.cell? ⟨E, 0, none⟩ = some (.slice (some ⟨g, 0, none⟩) D.length c2) ∧ w'.cell? ⟨g, 11, none⟩ = some (.slice Ak yF.kids.length ck)) w7 := ⟨xE, xk⟩
          clear x5 e0 hrun
          refine wpAnyG_one (i := 12) (by kernel_rfl) rfl rfl (fun K hK => ?_)
          go_simp
          refine hK.out _ _ (fun _ h => h) ?_
          clear hK K
          refine wpAnyG_one (i := 13) (by kernel_rfl) rfl rfl (fun K hK => ?_)
          go_simp
          refine hK.out _ _ (fun _ h => h) ?_
          clear hK K
          refine wpAnyG_one (i := 14) (by kernel_rfl) rfl rfl (fun K hK => ?_)
          go_simp
          refine hK.out _ _ (fun h => absurd (by decide) h) ?_
          clear hK K hS
          refine wpAnyG_done (by kernel_rfl) ?_ _
          obtain ⟨w8, hw8⟩ : ∃ w8, w8 = w7.setCell ⟨g, 11, none⟩ (.slice An (yF.kids.length + 1) cn) := ⟨_, rfl⟩
          rw [show w7.setCell ⟨g, 1 * 6 + 5, none⟩ (.slice An (yF.kids.length + 1) cn) = w8 from hw8.symm] at HRB8 HX8 HO8
          rw [← hw8]
          clear hw8 fk xk xE
          obtain ⟨D2, hD2⟩ : ∃ D2, D.set 1 { yF with kids := yF.kids ++ [(D.length : Int)] } = D2 := ⟨_, rfl⟩
          have HDl : Hid (D2.length = D.length) := by show D2.length = D.length; rw [← hD2, List.length_set]
          rw [hD2] at HRB8
          obtain ⟨g2, c9, w9, hrun, fE, cE, hrb⟩ := HRB8.out.more (y := ⟨2, (⟨#[105, 110, 112, 117, 116]⟩ : ByteArray), ats6, ⟨#[]⟩, 1, []⟩) (A' := A6) (c' := c60) (by have := HDl.out; have := HDL.out; omega) ⟨(show (Lit.int .i64 2).wf = true by decide), (show 5 ≤ 1152921504606846976 by decide), (show 0 ≤ 1152921504606846976 by decide), (show (Lit.int .i64 1).wf = true by decide), (show (ats6).length ≤ 2000000000 by have := HALF.out; omega), Nat.zero_le _⟩ rfl (Own.down HO8.out HR.out.low.size) (fun i q b hq hb e => by
            have h9 := (Own.lt HO8.out b e).1
            have h8 : b < wr.heap.size := by
              by_cases e2 : 1 = i
              · subst e2
                rw [List.getElem?_set_self (List.getElem?_eq_some_iff.1 HP1.out).1] at hq
                obtain rfl := Option.some.inj hq
                exact HR.out.before HP1.out hb
              · rw [List.getElem?_set_ne e2] at hq
                exact HR.out.before hq hb
            omega)
          have HRUN := Lib.hid hrun
          have HRB9 := Lib.hid hrb
          have hx8 := HX8.out
          have k0 := cell_blk (i := 0) hx8 rfl
          have k1 := cell_blk (i := 1) hx8 rfl
          have k2 := cell_blk (i := 2) hx8 rfl
          have k3 := cell_blk (i := 3) hx8 rfl
          have k4 := cell_blk (i := 4) hx8 rfl
          have k5 := cell_blk (i := 5) hx8 rfl
          have e0 := HRB8.out.at_.c0
          clear hx8 hrun hrb
          go_upto_region 6 with (at_builtin; refine wpList_append_runI (by rfl) (.tmp 71) (.tmp 73) 27 rfl (.slice (some ⟨g, 0, none⟩) D2.length c2) (.slice (some ⟨w8.heap.size, 0, none⟩) 1 1) rfl rfl HRUN.out ?_)
          clear k0 k1 k2 k3 k4 k5 e0 fE cE
          have HNX := Lib.hid (show D2 ++ [(⟨2, (⟨#[105, 110, 112, 117, 116]⟩ : ByteArray), ats6, ⟨#[]⟩, 1, []⟩ : Nd)] = radD true (cs.take (j + 1)) from by
            have h := rad_next true (cs.take j) true
            rw [HTK.out] at h
            rw [← hD2, HTS.out, ← h, HDL.out, HD.out, ← HY0.out, HATF.out]
            rfl)
          rw [HNX.out] at HRB9
          clear HNX hD2
          go_wp2_with fail
          go_roundw
          case rel => exact ⟨j + 1, g2, c9, _, by omega, by go_num, by rw [HAN.out], HRB9⟩
          case measure => simp [intOf]; omega
    · obtain rfl : j = k := by omega
      rw [List.take_of_length_le (by omega)] at HR
      rw [List.take_of_length_le (by omega)]
      obtain ⟨ES, hes, hcase⟩ := rad_ents (req := req) (cs := cs) (by omega)
      have hn10 : cs.length ≤ 10 := by omega
      have HBG := Lib.hid (fun u (hu : Below w.heap.size w u) => formBegun_any u (HE.out.below hu))
      have HEN := Lib.hid ((entries_any (some ⟨g, 0, none⟩) (radD req cs).length c2 (radD req cs) false 1 wr wr.heap.size HR.out.at_.ed.sl (Nat.le_refl _) (HE.out.below HR.out.low) (by decide)).mono (R' := fun e w' => Below wr.heap.size wr w' ∧ ∃ A7 c7, e = .returned (.tuple #[.slice A7 ES.length c7, .int .i64 0]) ∧ Sl tDA w' (lt w'.heap.size) A7 ES.length c7 ES) fun e w' h => ⟨h.1, by
        rcases h.2 with ⟨h0, _⟩ | ⟨_, v, h1, h2⟩
        · exact absurd (by rw [hes]) h0
        · rw [hes] at h2
          have hle : ES.length ≤ 1 := by rcases hcase with ⟨h, _⟩ | ⟨_, _, _, _, h, _⟩ <;> rw [h] <;> simp
          obtain ⟨A7, c7, rfl, hs⟩ := OwnF.sl h2 (by decide) (by show ES.length * 32 ≤ _; omega)
          exact ⟨A7, c7, h1, hs⟩⟩)
      have HFT := Lib.hid (fun (i : Nat) (hi : i < cs.length) (V : World) (hV : Below wr.heap.size wr V) => by
        obtain ⟨c', hc'⟩ := get_some hi
        have R := rad_each (req := req) hn10 hc'
        have h := fault_no (some ⟨g, 0, none⟩) (radD req cs).length c2 (radD req cs) false (i := i + 2) V wr.heap.size (HR.out.at_.ed.sl.below hV (Nat.le_refl _)) hV.size (HE.out.below (HR.out.low.trans (hV.mono HR.out.low.size))) (rad_ctrl hn10 hi) R.mx R.mn (by rw [R.kind]; decide +kernel)
        rw [rad_miss hn10 hi, show (((i + 2 : Nat) : Int)) = 2 + (i : Int) by omega] at h
        exact h)
      have e0 := HR.out.at_.c0
      have e1 := HR.out.at_.c1
      clear hes
      go_upto_region 16 with (go_at_call 10; refine HEN.out.mono ?_; rintro e w7 ⟨hb7, A7, c7, rfl, hs7⟩)
      have H7 := Lib.hid (HR.out.next hb7)
      have hc7 := hs7.hc
      have HS7 := Lib.hid hs7
      have HFT7 := Lib.hid (fun (i : Nat) (hi : i < cs.length) (V : World) (hV : Below w7.heap.size w7 V) => HFT.out i hi V (hb7.trans (hV.mono hb7.size)))
      have HLC := Lib.hid (fun V (hV : Below w7.heap.size w7 V) => (HL.out.below (H7.out.low.trans (hV.mono H7.out.low.size)) hB))
      have HLOW := Lib.hid (fun V (hV : Below w7.heap.size w7 V) => (H7.out.low.trans (hV.mono H7.out.low.size)))
      have HX7 := Lib.hid (fun V (hV : Below w7.heap.size w7 V) => And.intro (H7.out.next hV).at_.c0 (H7.out.next hV).at_.c1)
      clear hb7 hs7 HEN HFT e0 e1 HR
      rcases hcase with ⟨rfl, hany⟩ | ⟨jj, v, hjj, hlast, rfl, hv, hany⟩
      · rw [hany] at HFT7 ⊢
        go_upto_region 19 with fail
        cases req with
        | false =>
          have HFT8 := Lib.hid (fun (i : Nat) (hi : i < cs.length) (V : World) (hV : Below w7.heap.size w7 V) => (HFT7.out i hi V hV).mono (R' := fun e w' => e = .returned (.tuple #[.int .i64 0, .int .i64 0]) ∧ Below V.heap.size V w') fun e w' h => h)
          clear HFT7
          go_loopw [11] (fun s wq => ∃ i : Nat, i ≤ j ∧ s = .int .i64 (i : Int) ∧ Hid (Below w7.heap.size w7 wq)) (fun s _ => j - (intOf s).toNat)
          case atStart => exact ⟨0, Nat.zero_le _, rfl, Lib.hid (Below.refl _ _)⟩
          case round =>
            obtain ⟨i, hi, rfl, HW⟩ := hrel
            by_cases hij : i < j
            · obtain ⟨ch, hch⟩ : ∃ ch, cs[i]? = some ch := get_some (by omega)
              obtain ⟨e0, e1⟩ := HX7.out _ HW.out
              have HF := Lib.hid (HFT8.out i (by omega) _ HW.out)
              have i5 : (0 : Int) ≤ (i : Int) := by omega
              have i6 : (i : Int) < (j : Int) := by omega
              have i7 : (i : Int) < 10 := by omega
              go_upto_region 22 with (go_at_call 11; refine HF.out.mono ?_; rintro e w8 ⟨rfl, hb8⟩)
              have HW8 := Lib.hid (HW.out.trans (hb8.mono HW.out.size))
              clear e0 e1 HF hb8
              obtain ⟨b1, o1, hA, _, x1⟩ := bool_get (HLC.out w8 HW8.out) hch
              subst hA
              cases ch with
              | false =>
                clear hch
                go_upto_region 24 with fail
                refine wp_region_G (S := fun w' : World => w'.cell? ⟨b1, o1 + i, none⟩ = some (.bool false)) (T := []) (by kernel_rfl) ?_
                have hS : (fun w' : World => w'.cell? ⟨b1, o1 + i, none⟩ = some (.bool false)) w8.drew := x1
                refine wpAnyG_pureW (i := 0) (v := ?_) rfl (by kernel_rfl) (by kernel_rfl) (by kernel_rfl) (fun _ _ _ h => h) (by kernel_rfl) ?_ ?_
                rotate_left
                · intro w'
                  first | (go_simp; done) | (go_simp; with_reducible rfl)
                refine wpAnyG_pureW (i := 1) (v := ?_) rfl (by kernel_rfl) (by kernel_rfl) (by kernel_rfl) (fun _ _ _ h => h) (by kernel_rfl) ?_ ?_
                rotate_left
                · intro w'
                  first | (go_simp; done) | (go_simp; with_reducible rfl)
                refine wpAnyG_pureW (i := 2) (v := ?_) rfl (by kernel_rfl) (by kernel_rfl) (by kernel_rfl) (fun _ _ _ h => h) (by kernel_rfl) ?_ ?_
                rotate_left
                · intro w'
                  first | (go_simp; done) | (go_simp; with_reducible rfl)
                refine wpAnyG_takeW (i := 3) (v := ?_) rfl (by kernel_rfl) (by kernel_rfl) (by kernel_rfl) (by kernel_rfl) (fun _ _ _ h => h) hS (by kernel_rfl) ?_ ?_
                rotate_left
                · intro w' hSw
                  (try dsimp only at hSw)
                  first | (go_simp; done) | (go_simp; with_reducible rfl)
                refine wpAnyG_pureW (i := 4) (v := ?_) rfl (by kernel_rfl) (by kernel_rfl) (by kernel_rfl) (fun _ _ _ h => h) (by kernel_rfl) ?_ ?_
                rotate_left
                · intro w'
                  first | (go_simp; done) | (go_simp; with_reducible rfl)
                refine wpAnyG_skipW (i := 5) rfl (by kernel_rfl) (by kernel_rfl) (by kernel_rfl) (fun _ _ _ h => h) (by kernel_rfl) ?_
                refine wpAnyG_skipW (i := 6) rfl (by kernel_rfl) (by kernel_rfl) (by kernel_rfl) (fun _ _ _ h => h) (by kernel_rfl) ?_
                refine wpAnyG_skipW (i := 7) rfl (by kernel_rfl) (by kernel_rfl) (by kernel_rfl) (fun _ _ _ h => h) (by kernel_rfl) ?_
                refine wpAnyG_skipW (i := 8) rfl (by kernel_rfl) (by kernel_rfl) (by kernel_rfl) (fun _ _ _ h => h) (by kernel_rfl) ?_
                refine wpAnyG_skipW (i := 9) rfl (by kernel_rfl) (by kernel_rfl) (by kernel_rfl) (fun _ _ _ h => h) (by kernel_rfl) ?_
                refine wpAnyG_skipW (i := 10) rfl (by kernel_rfl) (by kernel_rfl) (by kernel_rfl) (fun _ _ _ h => h) (by kernel_rfl) ?_
                refine wpAnyG_skipW (i := 11) rfl (by kernel_rfl) (by kernel_rfl) (by kernel_rfl) (fun _ _ _ h => h) (by kernel_rfl) ?_
                refine wpAnyG_skipW (i := 12) rfl (by kernel_rfl) (by kernel_rfl) (by kernel_rfl) (fun _ _ _ h => h) (by kernel_rfl) ?_
                refine wpAnyG_skipW (i := 13) rfl (by kernel_rfl) (by kernel_rfl) (by kernel_rfl) (fun _ _ _ h => h) (by kernel_rfl) ?_
                refine wpAnyG_pureW (i := 14) (v := ?_) rfl (by kernel_rfl) (by kernel_rfl) (by kernel_rfl) (fun _ _ _ h => h) (by kernel_rfl) ?_ ?_
                rotate_left
                · intro w'
                  first | (go_simp; done) | (go_simp; with_reducible rfl)
                clear hS x1
                refine wpAnyG_done (by kernel_rfl) ?_ _
                go_simp
                go_wp2_with fail
                first
                  | exact ⟨⟨i + 1, by omega, by omega, Lib.hid HW8.out.drew⟩, by simp [intOf]; omega⟩
                  | (refine ⟨?_, by simp [intOf]; omega⟩
                     repeat first | (refine ⟨?_, rfl⟩; exact ⟨i + 1, by omega, by go_num, Lib.hid HW8.out.drew⟩) | apply Exists.intro)
              | true =>
                exact absurd (List.any_eq_true.2 ⟨true, List.mem_of_getElem? hch, rfl⟩) (by rw [hany]; simp)
            · go_wp2_with (go_at_call 12; refine (HBG.out _ (HLOW.out _ HW.out)).mono ?_; rintro e w9 ⟨rfl, hb9⟩)
              go_ret
              exact ⟨rfl, (HLOW.out _ HW.out).trans (hb9.mono (HLOW.out _ HW.out).size)⟩
        | true =>
          have HFT8 := Lib.hid (fun (i : Nat) (hi : i < cs.length) (V : World) (hV : Below w7.heap.size w7 V) => (HFT7.out i hi V hV).mono (R' := fun e w' => e = .returned (.tuple #[.int .i64 1, .int .i64 0]) ∧ Below V.heap.size V w') fun e w' h => h)
          clear HFT7
          go_loopw [11] (fun s wq => ∃ i : Nat, i ≤ j ∧ s = .int .i64 (i : Int) ∧ Hid (Below w7.heap.size w7 wq)) (fun s _ => j - (intOf s).toNat)
          case atStart => exact ⟨0, Nat.zero_le _, rfl, Lib.hid (Below.refl _ _)⟩
          case round =>
            obtain ⟨i, hi, rfl, HW⟩ := hrel
            by_cases hij : i < j
            · obtain ⟨ch, hch⟩ : ∃ ch, cs[i]? = some ch := get_some (by omega)
              obtain ⟨e0, e1⟩ := HX7.out _ HW.out
              have HF := Lib.hid (HFT8.out i (by omega) _ HW.out)
              have i5 : (0 : Int) ≤ (i : Int) := by omega
              have i6 : (i : Int) < (j : Int) := by omega
              have i7 : (i : Int) < 10 := by omega
              go_upto_region 22 with (go_at_call 11; refine HF.out.mono ?_; rintro e w8 ⟨rfl, hb8⟩)
              have HW8 := Lib.hid (HW.out.trans (hb8.mono HW.out.size))
              clear e0 e1 HF hb8
              obtain ⟨b1, o1, hA, _, x1⟩ := bool_get (HLC.out w8 HW8.out) hch
              subst hA
              cases ch with
              | false =>
                clear hch
                go_upto_region 24 with fail
                refine wp_region_G (S := fun w' : World => w'.cell? ⟨b1, o1 + i, none⟩ = some (.bool false)) (T := []) (by kernel_rfl) ?_
                have hS : (fun w' : World => w'.cell? ⟨b1, o1 + i, none⟩ = some (.bool false)) w8.drew := x1
                refine wpAnyG_pureW (i := 0) (v := ?_) rfl (by kernel_rfl) (by kernel_rfl) (by kernel_rfl) (fun _ _ _ h => h) (by kernel_rfl) ?_ ?_
                rotate_left
                · intro w'
                  first | (go_simp; done) | (go_simp; with_reducible rfl)
                refine wpAnyG_pureW (i := 1) (v := ?_) rfl (by kernel_rfl) (by kernel_rfl) (by kernel_rfl) (fun _ _ _ h => h) (by kernel_rfl) ?_ ?_
                rotate_left
                · intro w'
                  first | (go_simp; done) | (go_simp; with_reducible rfl)
                refine wpAnyG_pureW (i := 2) (v := ?_) rfl (by kernel_rfl) (by kernel_rfl) (by kernel_rfl) (fun _ _ _ h => h) (by kernel_rfl) ?_ ?_
                rotate_left
                · intro w'
                  first | (go_simp; done) | (go_simp; with_reducible rfl)
                refine wpAnyG_takeW (i := 3) (v := ?_) rfl (by kernel_rfl) (by kernel_rfl) (by kernel_rfl) (by kernel_rfl) (fun _ _ _ h => h) hS (by kernel_rfl) ?_ ?_
                rotate_left
                · intro w' hSw
                  (try dsimp only at hSw)
                  first | (go_simp; done) | (go_simp; with_reducible rfl)
                refine wpAnyG_pureW (i := 4) (v := ?_) rfl (by kernel_rfl) (by kernel_rfl) (by kernel_rfl) (fun _ _ _ h => h) (by kernel_rfl) ?_ ?_
                rotate_left
                · intro w'
                  first | (go_simp; done) | (go_simp; with_reducible rfl)
                refine wpAnyG_skipW (i := 5) rfl (by kernel_rfl) (by kernel_rfl) (by kernel_rfl) (fun _ _ _ h => h) (by kernel_rfl) ?_
                refine wpAnyG_skipW (i := 6) rfl (by kernel_rfl) (by kernel_rfl) (by kernel_rfl) (fun _ _ _ h => h) (by kernel_rfl) ?_
                refine wpAnyG_skipW (i := 7) rfl (by kernel_rfl) (by kernel_rfl) (by kernel_rfl) (fun _ _ _ h => h) (by kernel_rfl) ?_
                refine wpAnyG_skipW (i := 8) rfl (by kernel_rfl) (by kernel_rfl) (by kernel_rfl) (fun _ _ _ h => h) (by kernel_rfl) ?_
                refine wpAnyG_skipW (i := 9) rfl (by kernel_rfl) (by kernel_rfl) (by kernel_rfl) (fun _ _ _ h => h) (by kernel_rfl) ?_
                refine wpAnyG_skipW (i := 10) rfl (by kernel_rfl) (by kernel_rfl) (by kernel_rfl) (fun _ _ _ h => h) (by kernel_rfl) ?_
                refine wpAnyG_skipW (i := 11) rfl (by kernel_rfl) (by kernel_rfl) (by kernel_rfl) (fun _ _ _ h => h) (by kernel_rfl) ?_
                refine wpAnyG_skipW (i := 12) rfl (by kernel_rfl) (by kernel_rfl) (by kernel_rfl) (fun _ _ _ h => h) (by kernel_rfl) ?_
                refine wpAnyG_skipW (i := 13) rfl (by kernel_rfl) (by kernel_rfl) (by kernel_rfl) (fun _ _ _ h => h) (by kernel_rfl) ?_
                refine wpAnyG_pureW (i := 14) (v := ?_) rfl (by kernel_rfl) (by kernel_rfl) (by kernel_rfl) (fun _ _ _ h => h) (by kernel_rfl) ?_ ?_
                rotate_left
                · intro w'
                  first | (go_simp; done) | (go_simp; with_reducible rfl)
                clear hS x1
                refine wpAnyG_done (by kernel_rfl) ?_ _
                go_simp
                go_wp2_with fail
                first
                  | exact ⟨⟨i + 1, by omega, by omega, Lib.hid HW8.out.drew⟩, by simp [intOf]; omega⟩
                  | (refine ⟨?_, by simp [intOf]; omega⟩
                     repeat first | (refine ⟨?_, rfl⟩; exact ⟨i + 1, by omega, by go_num, Lib.hid HW8.out.drew⟩) | apply Exists.intro)
              | true =>
                exact absurd (List.any_eq_true.2 ⟨true, List.mem_of_getElem? hch, rfl⟩) (by rw [hany]; simp)
            · go_wp2_with (go_at_call 12; refine (HBG.out _ (HLOW.out _ HW.out)).mono ?_; rintro e w9 ⟨rfl, hb9⟩)
              go_ret
              exact ⟨rfl, (HLOW.out _ HW.out).trans (hb9.mono (HLOW.out _ HW.out).size)⟩
      · rw [hany] at HFT7 ⊢
        go_upto_region 19 with fail
        cases req with
        | false =>
          have HFT8 := Lib.hid (fun (i : Nat) (hi : i < cs.length) (V : World) (hV : Below w7.heap.size w7 V) => (HFT7.out i hi V hV).mono (R' := fun e w' => e = .returned (.tuple #[.int .i64 0, .int .i64 0]) ∧ Below V.heap.size V w') fun e w' h => h)
          clear HFT7
          go_loopw [11] (fun s wq => ∃ i : Nat, i ≤ j ∧ s = .int .i64 (i : Int) ∧ Hid (Below w7.heap.size w7 wq)) (fun s _ => j - (intOf s).toNat)
          case atStart => exact ⟨0, Nat.zero_le _, rfl, Lib.hid (Below.refl _ _)⟩
          case round =>
            obtain ⟨i, hi, rfl, HW⟩ := hrel
            by_cases hij : i < j
            · obtain ⟨ch, hch⟩ : ∃ ch, cs[i]? = some ch := get_some (by omega)
              obtain ⟨e0, e1⟩ := HX7.out _ HW.out
              have HF := Lib.hid (HFT8.out i (by omega) _ HW.out)
              have i5 : (0 : Int) ≤ (i : Int) := by omega
              have i6 : (i : Int) < (j : Int) := by omega
              have i7 : (i : Int) < 10 := by omega
              go_upto_region 22 with (go_at_call 11; refine HF.out.mono ?_; rintro e w8 ⟨rfl, hb8⟩)
              have HW8 := Lib.hid (HW.out.trans (hb8.mono HW.out.size))
              clear e0 e1 HF hb8
              obtain ⟨b1, o1, hA, _, x1⟩ := bool_get (HLC.out w8 HW8.out) hch
              subst hA
              cases ch with
              | false =>
                clear hch
                go_upto_region 24 with fail
                refine wp_region_G (S := fun w' : World => w'.cell? ⟨b1, o1 + i, none⟩ = some (.bool false)) (T := []) (by kernel_rfl) ?_
                have hS : (fun w' : World => w'.cell? ⟨b1, o1 + i, none⟩ = some (.bool false)) w8.drew := x1
                refine wpAnyG_pureW (i := 0) (v := ?_) rfl (by kernel_rfl) (by kernel_rfl) (by kernel_rfl) (fun _ _ _ h => h) (by kernel_rfl) ?_ ?_
                rotate_left
                · intro w'
                  first | (go_simp; done) | (go_simp; with_reducible rfl)
                refine wpAnyG_pureW (i := 1) (v := ?_) rfl (by kernel_rfl) (by kernel_rfl) (by kernel_rfl) (fun _ _ _ h => h) (by kernel_rfl) ?_ ?_
                rotate_left
                · intro w'
                  first | (go_simp; done) | (go_simp; with_reducible rfl)
                refine wpAnyG_pureW (i := 2) (v := ?_) rfl (by kernel_rfl) (by kernel_rfl) (by kernel_rfl) (fun _ _ _ h => h) (by kernel_rfl) ?_ ?_
                rotate_left
                · intro w'
                  first | (go_simp; done) | (go_simp; with_reducible rfl)
                refine wpAnyG_takeW (i := 3) (v := ?_) rfl (by kernel_rfl) (by kernel_rfl) (by kernel_rfl) (by kernel_rfl) (fun _ _ _ h => h) hS (by kernel_rfl) ?_ ?_
                rotate_left
                · intro w' hSw
                  (try dsimp only at hSw)
                  first | (go_simp; done) | (go_simp; with_reducible rfl)
                refine wpAnyG_pureW (i := 4) (v := ?_) rfl (by kernel_rfl) (by kernel_rfl) (by kernel_rfl) (fun _ _ _ h => h) (by kernel_rfl) ?_ ?_
                rotate_left
                · intro w'
                  first | (go_simp; done) | (go_simp; with_reducible rfl)
                refine wpAnyG_skipW (i := 5) rfl (by kernel_rfl) (by kernel_rfl) (by kernel_rfl) (fun _ _ _ h => h) (by kernel_rfl) ?_
                refine wpAnyG_skipW (i := 6) rfl (by kernel_rfl) (by kernel_rfl) (by kernel_rfl) (fun _ _ _ h => h) (by kernel_rfl) ?_
                refine wpAnyG_skipW (i := 7) rfl (by kernel_rfl) (by kernel_rfl) (by kernel_rfl) (fun _ _ _ h => h) (by kernel_rfl) ?_
                refine wpAnyG_skipW (i := 8) rfl (by kernel_rfl) (by kernel_rfl) (by kernel_rfl) (fun _ _ _ h => h) (by kernel_rfl) ?_
                refine wpAnyG_skipW (i := 9) rfl (by kernel_rfl) (by kernel_rfl) (by kernel_rfl) (fun _ _ _ h => h) (by kernel_rfl) ?_
                refine wpAnyG_skipW (i := 10) rfl (by kernel_rfl) (by kernel_rfl) (by kernel_rfl) (fun _ _ _ h => h) (by kernel_rfl) ?_
                refine wpAnyG_skipW (i := 11) rfl (by kernel_rfl) (by kernel_rfl) (by kernel_rfl) (fun _ _ _ h => h) (by kernel_rfl) ?_
                refine wpAnyG_skipW (i := 12) rfl (by kernel_rfl) (by kernel_rfl) (by kernel_rfl) (fun _ _ _ h => h) (by kernel_rfl) ?_
                refine wpAnyG_skipW (i := 13) rfl (by kernel_rfl) (by kernel_rfl) (by kernel_rfl) (fun _ _ _ h => h) (by kernel_rfl) ?_
                refine wpAnyG_pureW (i := 14) (v := ?_) rfl (by kernel_rfl) (by kernel_rfl) (by kernel_rfl) (fun _ _ _ h => h) (by kernel_rfl) ?_ ?_
                rotate_left
                · intro w'
                  first | (go_simp; done) | (go_simp; with_reducible rfl)
                clear hS x1
                refine wpAnyG_done (by kernel_rfl) ?_ _
                go_simp
                go_wp2_with fail
                first
                  | exact ⟨⟨i + 1, by omega, by omega, Lib.hid HW8.out.drew⟩, by simp [intOf]; omega⟩
                  | (refine ⟨?_, by simp [intOf]; omega⟩
                     repeat first | (refine ⟨?_, rfl⟩; exact ⟨i + 1, by omega, by go_num, Lib.hid HW8.out.drew⟩) | apply Exists.intro)
              | true =>
                have h9 := da_get (HS7.out.below HW8.out (Nat.le_refl _)) (i := 0) (a := ((⟨#[114]⟩ : ByteArray), v)) rfl
                obtain ⟨b9, o9, e9, _, _, c9, _, _⟩ := h9
                subst e9
                have w1 : IntKind.i64.wrap ((i : Int) + 1) = (i : Int) + 1 := IntWalk.i64_in _ (by omega)
                have n1 : ((i : Int) + 1).toNat = i + 1 := by omega
                have i8 : (0 : Int) ≤ (i : Int) + 1 := by omega
                have i9 : (i : Int) + 1 ≤ 10 := by omega
                have i10 : (i : Int) ≤ (i : Int) + 1 := by omega
                have hno := lt_no hv (show i ≤ jj by by_cases hc : jj < i; exact absurd hch (hlast i hc); omega) (by have := (List.getElem?_eq_some_iff.1 hjj).1; omega)
                clear hch hv
                go_upto_region 24 with fail
                refine wp_region_G (S := fun w' : World => w'.cell? ⟨b1, o1 + i, none⟩ = some (.bool true) ∧ w'.cell? ⟨b9, o9 + 1, none⟩ = some (.string v)) (T := []) (by kernel_rfl) ?_
                have hS : (fun w' : World => w'.cell? ⟨b1, o1 + i, none⟩ = some (.bool true) ∧ w'.cell? ⟨b9, o9 + 1, none⟩ = some (.string v)) w8.drew := ⟨x1, c9⟩
                refine wpAnyG_pureW (i := 0) (v := ?_) rfl (by kernel_rfl) (by kernel_rfl) (by kernel_rfl) (fun _ _ _ h => h) (by kernel_rfl) ?_ ?_
                rotate_left
                · intro w'
                  first | (go_simp; done) | (go_simp; with_reducible rfl)
                refine wpAnyG_pureW (i := 1) (v := ?_) rfl (by kernel_rfl) (by kernel_rfl) (by kernel_rfl) (fun _ _ _ h => h) (by kernel_rfl) ?_ ?_
                rotate_left
                · intro w'
                  first | (go_simp; done) | (go_simp; with_reducible rfl)
                refine wpAnyG_pureW (i := 2) (v := ?_) rfl (by kernel_rfl) (by kernel_rfl) (by kernel_rfl) (fun _ _ _ h => h) (by kernel_rfl) ?_ ?_
                rotate_left
                · intro w'
                  first | (go_simp; done) | (go_simp; with_reducible rfl)
                refine wpAnyG_takeW (i := 3) (v := ?_) rfl (by kernel_rfl) (by kernel_rfl) (by kernel_rfl) (by kernel_rfl) (fun _ _ _ h => h) hS (by kernel_rfl) ?_ ?_
                rotate_left
                · intro w' hSw
                  (try dsimp only at hSw)
                  first | (go_simp; done) | (go_simp; with_reducible rfl)
                refine wpAnyG_pureW (i := 4) (v := ?_) rfl (by kernel_rfl) (by kernel_rfl) (by kernel_rfl) (fun _ _ _ h => h) (by kernel_rfl) ?_ ?_
                rotate_left
                · intro w'
                  first | (go_simp; done) | (go_simp; with_reducible rfl)
                refine wpAnyG_pureW (i := 5) (v := ?_) rfl (by kernel_rfl) (by kernel_rfl) (by kernel_rfl) (fun _ _ _ h => h) (by kernel_rfl) ?_ ?_
                rotate_left
                · intro w'
                  first | (go_simp; done) | (go_simp; with_reducible rfl)
                refine wpAnyG_pureW (i := 6) (v := ?_) rfl (by kernel_rfl) (by kernel_rfl) (by kernel_rfl) (fun _ _ _ h => h) (by kernel_rfl) ?_ ?_
                rotate_left
                · intro w'
                  first | (go_simp; done) | (go_simp; with_reducible rfl)
                refine wpAnyG_pureW (i := 7) (v := ?_) rfl (by kernel_rfl) (by kernel_rfl) (by kernel_rfl) (fun _ _ _ h => h) (by kernel_rfl) ?_ ?_
                rotate_left
                · intro w'
                  first | (go_simp; done) | (go_simp; with_reducible rfl)
                refine wpAnyG_takeW (i := 8) (v := ?_) rfl (by kernel_rfl) (by kernel_rfl) (by kernel_rfl) (by kernel_rfl) (fun _ _ _ h => h) hS (by kernel_rfl) ?_ ?_
                rotate_left
                · intro w' hSw
                  (try dsimp only at hSw)
                  first | (go_simp; done) | (go_simp; with_reducible rfl)
                refine wpAnyG_pureW (i := 9) (v := ?_) rfl (by kernel_rfl) (by kernel_rfl) (by kernel_rfl) (fun _ _ _ h => h) (by kernel_rfl) ?_ ?_
                rotate_left
                · intro w'
                  first | (go_simp; done) | (go_simp; with_reducible rfl)
                refine wpAnyG_pureW (i := 10) (v := ?_) rfl (by kernel_rfl) (by kernel_rfl) (by kernel_rfl) (fun _ _ _ h => h) (by kernel_rfl) ?_ ?_
                rotate_left
                · intro w'
                  first | (go_simp; done) | (go_simp; with_reducible rfl)
                refine wpAnyG_pureW (i := 11) (v := ?_) rfl (by kernel_rfl) (by kernel_rfl) (by kernel_rfl) (fun _ _ _ h => h) (by kernel_rfl) ?_ ?_
                rotate_left
                · intro w'
                  first | (go_simp; done) | (go_simp; with_reducible rfl)
                refine wpAnyG_pureW (i := 12) (v := ?_) rfl (by kernel_rfl) (by kernel_rfl) (by kernel_rfl) (fun _ _ _ h => h) (by kernel_rfl) ?_ ?_
                rotate_left
                · intro w'
                  first | (go_simp; done) | (go_simp; with_reducible rfl)
                refine wpAnyG_pureW (i := 13) (v := ?_) rfl (by kernel_rfl) (by kernel_rfl) (by kernel_rfl) (fun _ _ _ h => h) (by kernel_rfl) ?_ ?_
                rotate_left
                · intro w'
                  first | (go_simp; done) | (go_simp; with_reducible rfl)
                refine wpAnyG_pureW (i := 14) (v := ?_) rfl (by kernel_rfl) (by kernel_rfl) (by kernel_rfl) (fun _ _ _ h => h) (by kernel_rfl) ?_ ?_
                rotate_left
                · intro w'
                  first | (go_simp; done) | (go_simp; with_reducible rfl)
                clear hS x1
                refine wpAnyG_done (by kernel_rfl) ?_ _
                go_simp
                go_wp2_with fail
                first
                  | exact ⟨⟨i + 1, by omega, by omega, Lib.hid HW8.out.drew⟩, by simp [intOf]; omega⟩
                  | (refine ⟨?_, by simp [intOf]; omega⟩
                     repeat first | (refine ⟨?_, rfl⟩; exact ⟨i + 1, by omega, by go_num, Lib.hid HW8.out.drew⟩) | apply Exists.intro)
            · go_wp2_with (go_at_call 12; refine (HBG.out _ (HLOW.out _ HW.out)).mono ?_; rintro e w9 ⟨rfl, hb9⟩)
              go_ret
              exact ⟨rfl, (HLOW.out _ HW.out).trans (hb9.mono (HLOW.out _ HW.out).size)⟩
        | true =>
          have HFT8 := Lib.hid (fun (i : Nat) (hi : i < cs.length) (V : World) (hV : Below w7.heap.size w7 V) => (HFT7.out i hi V hV).mono (R' := fun e w' => e = .returned (.tuple #[.int .i64 0, .int .i64 0]) ∧ Below V.heap.size V w') fun e w' h => h)
          clear HFT7
          go_loopw [11] (fun s wq => ∃ i : Nat, i ≤ j ∧ s = .int .i64 (i : Int) ∧ Hid (Below w7.heap.size w7 wq)) (fun s _ => j - (intOf s).toNat)
          case atStart => exact ⟨0, Nat.zero_le _, rfl, Lib.hid (Below.refl _ _)⟩
          case round =>
            obtain ⟨i, hi, rfl, HW⟩ := hrel
            by_cases hij : i < j
            · obtain ⟨ch, hch⟩ : ∃ ch, cs[i]? = some ch := get_some (by omega)
              obtain ⟨e0, e1⟩ := HX7.out _ HW.out
              have HF := Lib.hid (HFT8.out i (by omega) _ HW.out)
              have i5 : (0 : Int) ≤ (i : Int) := by omega
              have i6 : (i : Int) < (j : Int) := by omega
              have i7 : (i : Int) < 10 := by omega
              go_upto_region 22 with (go_at_call 11; refine HF.out.mono ?_; rintro e w8 ⟨rfl, hb8⟩)
              have HW8 := Lib.hid (HW.out.trans (hb8.mono HW.out.size))
              clear e0 e1 HF hb8
              obtain ⟨b1, o1, hA, _, x1⟩ := bool_get (HLC.out w8 HW8.out) hch
              subst hA
              cases ch with
              | false =>
                clear hch
                go_upto_region 24 with fail
                refine wp_region_G (S := fun w' : World => w'.cell? ⟨b1, o1 + i, none⟩ = some (.bool false)) (T := []) (by kernel_rfl) ?_
                have hS : (fun w' : World => w'.cell? ⟨b1, o1 + i, none⟩ = some (.bool false)) w8.drew := x1
                refine wpAnyG_pureW (i := 0) (v := ?_) rfl (by kernel_rfl) (by kernel_rfl) (by kernel_rfl) (fun _ _ _ h => h) (by kernel_rfl) ?_ ?_
                rotate_left
                · intro w'
                  first | (go_simp; done) | (go_simp; with_reducible rfl)
                refine wpAnyG_pureW (i := 1) (v := ?_) rfl (by kernel_rfl) (by kernel_rfl) (by kernel_rfl) (fun _ _ _ h => h) (by kernel_rfl) ?_ ?_
                rotate_left
                · intro w'
                  first | (go_simp; done) | (go_simp; with_reducible rfl)
                refine wpAnyG_pureW (i := 2) (v := ?_) rfl (by kernel_rfl) (by kernel_rfl) (by kernel_rfl) (fun _ _ _ h => h) (by kernel_rfl) ?_ ?_
                rotate_left
                · intro w'
                  first | (go_simp; done) | (go_simp; with_reducible rfl)
                refine wpAnyG_takeW (i := 3) (v := ?_) rfl (by kernel_rfl) (by kernel_rfl) (by kernel_rfl) (by kernel_rfl) (fun _ _ _ h => h) hS (by kernel_rfl) ?_ ?_
                rotate_left
                · intro w' hSw
                  (try dsimp only at hSw)
                  first | (go_simp; done) | (go_simp; with_reducible rfl)
                refine wpAnyG_pureW (i := 4) (v := ?_) rfl (by kernel_rfl) (by kernel_rfl) (by kernel_rfl) (fun _ _ _ h => h) (by kernel_rfl) ?_ ?_
                rotate_left
                · intro w'
                  first | (go_simp; done) | (go_simp; with_reducible rfl)
                refine wpAnyG_skipW (i := 5) rfl (by kernel_rfl) (by kernel_rfl) (by kernel_rfl) (fun _ _ _ h => h) (by kernel_rfl) ?_
                refine wpAnyG_skipW (i := 6) rfl (by kernel_rfl) (by kernel_rfl) (by kernel_rfl) (fun _ _ _ h => h) (by kernel_rfl) ?_
                refine wpAnyG_skipW (i := 7) rfl (by kernel_rfl) (by kernel_rfl) (by kernel_rfl) (fun _ _ _ h => h) (by kernel_rfl) ?_
                refine wpAnyG_skipW (i := 8) rfl (by kernel_rfl) (by kernel_rfl) (by kernel_rfl) (fun _ _ _ h => h) (by kernel_rfl) ?_
                refine wpAnyG_skipW (i := 9) rfl (by kernel_rfl) (by kernel_rfl) (by kernel_rfl) (fun _ _ _ h => h) (by kernel_rfl) ?_
                refine wpAnyG_skipW (i := 10) rfl (by kernel_rfl) (by kernel_rfl) (by kernel_rfl) (fun _ _ _ h => h) (by kernel_rfl) ?_
                refine wpAnyG_skipW (i := 11) rfl (by kernel_rfl) (by kernel_rfl) (by kernel_rfl) (fun _ _ _ h => h) (by kernel_rfl) ?_
                refine wpAnyG_skipW (i := 12) rfl (by kernel_rfl) (by kernel_rfl) (by kernel_rfl) (fun _ _ _ h => h) (by kernel_rfl) ?_
                refine wpAnyG_skipW (i := 13) rfl (by kernel_rfl) (by kernel_rfl) (by kernel_rfl) (fun _ _ _ h => h) (by kernel_rfl) ?_
                refine wpAnyG_pureW (i := 14) (v := ?_) rfl (by kernel_rfl) (by kernel_rfl) (by kernel_rfl) (fun _ _ _ h => h) (by kernel_rfl) ?_ ?_
                rotate_left
                · intro w'
                  first | (go_simp; done) | (go_simp; with_reducible rfl)
                clear hS x1
                refine wpAnyG_done (by kernel_rfl) ?_ _
                go_simp
                go_wp2_with fail
                first
                  | exact ⟨⟨i + 1, by omega, by omega, Lib.hid HW8.out.drew⟩, by simp [intOf]; omega⟩
                  | (refine ⟨?_, by simp [intOf]; omega⟩
                     repeat first | (refine ⟨?_, rfl⟩; exact ⟨i + 1, by omega, by go_num, Lib.hid HW8.out.drew⟩) | apply Exists.intro)
              | true =>
                have h9 := da_get (HS7.out.below HW8.out (Nat.le_refl _)) (i := 0) (a := ((⟨#[114]⟩ : ByteArray), v)) rfl
                obtain ⟨b9, o9, e9, _, _, c9, _, _⟩ := h9
                subst e9
                have w1 : IntKind.i64.wrap ((i : Int) + 1) = (i : Int) + 1 := IntWalk.i64_in _ (by omega)
                have n1 : ((i : Int) + 1).toNat = i + 1 := by omega
                have i8 : (0 : Int) ≤ (i : Int) + 1 := by omega
                have i9 : (i : Int) + 1 ≤ 10 := by omega
                have i10 : (i : Int) ≤ (i : Int) + 1 := by omega
                have hno := lt_no hv (show i ≤ jj by by_cases hc : jj < i; exact absurd hch (hlast i hc); omega) (by have := (List.getElem?_eq_some_iff.1 hjj).1; omega)
                clear hch hv
                go_upto_region 24 with fail
                refine wp_region_G (S := fun w' : World => w'.cell? ⟨b1, o1 + i, none⟩ = some (.bool true) ∧ w'.cell? ⟨b9, o9 + 1, none⟩ = some (.string v)) (T := []) (by kernel_rfl) ?_
                have hS : (fun w' : World => w'.cell? ⟨b1, o1 + i, none⟩ = some (.bool true) ∧ w'.cell? ⟨b9, o9 + 1, none⟩ = some (.string v)) w8.drew := ⟨x1, c9⟩
                refine wpAnyG_pureW (i := 0) (v := ?_) rfl (by kernel_rfl) (by kernel_rfl) (by kernel_rfl) (fun _ _ _ h => h) (by kernel_rfl) ?_ ?_
                rotate_left
                · intro w'
                  first | (go_simp; done) | (go_simp; with_reducible rfl)
                refine wpAnyG_pureW (i := 1) (v := ?_) rfl (by kernel_rfl) (by kernel_rfl) (by kernel_rfl) (fun _ _ _ h => h) (by kernel_rfl) ?_ ?_
                rotate_left
                · intro w'
                  first | (go_simp; done) | (go_simp; with_reducible rfl)
                refine wpAnyG_pureW (i := 2) (v := ?_) rfl (by kernel_rfl) (by kernel_rfl) (by kernel_rfl) (fun _ _ _ h => h) (by kernel_rfl) ?_ ?_
                rotate_left
                · intro w'
                  first | (go_simp; done) | (go_simp; with_reducible rfl)
                refine wpAnyG_takeW (i := 3) (v := ?_) rfl (by kernel_rfl) (by kernel_rfl) (by kernel_rfl) (by kernel_rfl) (fun _ _ _ h => h) hS (by kernel_rfl) ?_ ?_
                rotate_left
                · intro w' hSw
                  (try dsimp only at hSw)
                  first | (go_simp; done) | (go_simp; with_reducible rfl)
                refine wpAnyG_pureW (i := 4) (v := ?_) rfl (by kernel_rfl) (by kernel_rfl) (by kernel_rfl) (fun _ _ _ h => h) (by kernel_rfl) ?_ ?_
                rotate_left
                · intro w'
                  first | (go_simp; done) | (go_simp; with_reducible rfl)
                refine wpAnyG_pureW (i := 5) (v := ?_) rfl (by kernel_rfl) (by kernel_rfl) (by kernel_rfl) (fun _ _ _ h => h) (by kernel_rfl) ?_ ?_
                rotate_left
                · intro w'
                  first | (go_simp; done) | (go_simp; with_reducible rfl)
                refine wpAnyG_pureW (i := 6) (v := ?_) rfl (by kernel_rfl) (by kernel_rfl) (by kernel_rfl) (fun _ _ _ h => h) (by kernel_rfl) ?_ ?_
                rotate_left
                · intro w'
                  first | (go_simp; done) | (go_simp; with_reducible rfl)
                refine wpAnyG_pureW (i := 7) (v := ?_) rfl (by kernel_rfl) (by kernel_rfl) (by kernel_rfl) (fun _ _ _ h => h) (by kernel_rfl) ?_ ?_
                rotate_left
                · intro w'
                  first | (go_simp; done) | (go_simp; with_reducible rfl)
                refine wpAnyG_takeW (i := 8) (v := ?_) rfl (by kernel_rfl) (by kernel_rfl) (by kernel_rfl) (by kernel_rfl) (fun _ _ _ h => h) hS (by kernel_rfl) ?_ ?_
                rotate_left
                · intro w' hSw
                  (try dsimp only at hSw)
                  first | (go_simp; done) | (go_simp; with_reducible rfl)
                refine wpAnyG_pureW (i := 9) (v := ?_) rfl (by kernel_rfl) (by kernel_rfl) (by kernel_rfl) (fun _ _ _ h => h) (by kernel_rfl) ?_ ?_
                rotate_left
                · intro w'
                  first | (go_simp; done) | (go_simp; with_reducible rfl)
                refine wpAnyG_pureW (i := 10) (v := ?_) rfl (by kernel_rfl) (by kernel_rfl) (by kernel_rfl) (fun _ _ _ h => h) (by kernel_rfl) ?_ ?_
                rotate_left
                · intro w'
                  first | (go_simp; done) | (go_simp; with_reducible rfl)
                refine wpAnyG_pureW (i := 11) (v := ?_) rfl (by kernel_rfl) (by kernel_rfl) (by kernel_rfl) (fun _ _ _ h => h) (by kernel_rfl) ?_ ?_
                rotate_left
                · intro w'
                  first | (go_simp; done) | (go_simp; with_reducible rfl)
                refine wpAnyG_pureW (i := 12) (v := ?_) rfl (by kernel_rfl) (by kernel_rfl) (by kernel_rfl) (fun _ _ _ h => h) (by kernel_rfl) ?_ ?_
                rotate_left
                · intro w'
                  first | (go_simp; done) | (go_simp; with_reducible rfl)
                refine wpAnyG_pureW (i := 13) (v := ?_) rfl (by kernel_rfl) (by kernel_rfl) (by kernel_rfl) (fun _ _ _ h => h) (by kernel_rfl) ?_ ?_
                rotate_left
                · intro w'
                  first | (go_simp; done) | (go_simp; with_reducible rfl)
                refine wpAnyG_pureW (i := 14) (v := ?_) rfl (by kernel_rfl) (by kernel_rfl) (by kernel_rfl) (fun _ _ _ h => h) (by kernel_rfl) ?_ ?_
                rotate_left
                · intro w'
                  first | (go_simp; done) | (go_simp; with_reducible rfl)
                clear hS x1
                refine wpAnyG_done (by kernel_rfl) ?_ _
                go_simp
                go_wp2_with fail
                first
                  | exact ⟨⟨i + 1, by omega, by omega, Lib.hid HW8.out.drew⟩, by simp [intOf]; omega⟩
                  | (refine ⟨?_, by simp [intOf]; omega⟩
                     repeat first | (refine ⟨?_, rfl⟩; exact ⟨i + 1, by omega, by go_num, Lib.hid HW8.out.drew⟩) | apply Exists.intro)
            · go_wp2_with (go_at_call 12; refine (HBG.out _ (HLOW.out _ HW.out)).mono ?_; rintro e w9 ⟨rfl, hb9⟩)
              go_ret
              exact ⟨rfl, (HLOW.out _ HW.out).trans (hb9.mono (HLOW.out _ HW.out).size)⟩
end Go.Proofs.YtpbngckplbnahaaGreatDoor
