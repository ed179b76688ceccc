/-
The walk of FormBack; what a bounded size says of its argument.
-/
import Derived.Test.YtpbngckplbnahaaGreatDoorFbBulk
import Derived.Test.YtpbngckplbnahaaGreatDoorFbDec
import Derived.Test.YtpbngckplbnahaaGreatDoorFormBegun
namespace Go.Proofs.YtpbngckplbnahaaGreatDoor
open Go.RowKit Go.Cl
attribute [local go_sem ↓] Go.wp_at_zero Go.wp_at_succ

/-! ### the signs -/
set_option maxRecDepth 100000 in
theorem sign_cases : ∀ n : Nat, n < 256 → signOk n.toUInt8 = true → (97 ≤ bits .or .u8 (n : Int) 32 ∧ bits .or .u8 (n : Int) 32 ≤ 122) ∨ (48 ≤ n ∧ n ≤ 57 ∧ bits .or .u8 (n : Int) 32 < 97) ∨ n = 42 ∨ n = 45 ∨ n = 46 ∨ n = 95 ∨ n = 43 ∨ n = 37 ∨ n = 61 ∨ n = 38 := by decide +kernel
/-- The parts of an encoded text. -/
def fbPs (l : List DAttr) : List (List UInt8) := if (l.map entB).map fbEncE = [] then [[]] else (l.map entB).map fbEncE
theorem fbPs_join (l : List DAttr) : fbJoin (fbPs l) = fbEncL (l.map entB) := by
  unfold fbPs fbEncL
  split
  · rename_i h; rw [h]; rfl
  · rfl
theorem fbPs_not (l : List DAttr) : ∀ p ∈ fbPs l, (38 : UInt8) ∉ p := by
  intro p hp
  unfold fbPs at hp
  split at hp
  · obtain rfl := List.mem_singleton.1 hp
    simp
  · obtain ⟨x, _, rfl⟩ := List.mem_map.1 hp
    exact fbEncE_not x
theorem fbPs_ne (l : List DAttr) : fbPs l ≠ [] := by
  unfold fbPs
  split
  · simp
  · assumption
theorem fbPs_len (l : List DAttr) (h : l.length ≤ 20) : (fbPs l).length ≤ 20 := by
  unfold fbPs
  split
  · simp
  · rw [List.length_map, List.length_map]; exact h
theorem fbPs_dec (l : List DAttr) : decAcc (fbPs l) = l := by
  have h := form_back (l.map entB) ((l.map entB).length + 1) (by omega)
  unfold fbEncL at h
  rw [fb_parts _ (fun p hp => by obtain ⟨x, _, rfl⟩ := List.mem_map.1 hp; exact fbEncE_not x) _ (by rw [List.length_map]; omega) (by omega)] at h
  unfold decAcc fbPs
  rw [h, List.map_map]
  conv => rhs; rw [← List.map_id l]
  rfl
set_option maxRecDepth 100000 in
set_option maxHeartbeats 16000000 in
theorem formBack_walk (A : Option Addr) (n c : Nat) (l : List DAttr) (w : World) (B : Nat) (hl : Sl tDA w (lt B) A n c l) (hB : B ≤ w.heap.size) (hE : Env w) (hS : ∀ x ∈ l, x.1.size ≤ 1048576 ∧ x.2.size ≤ 1048576) :
    Calls Tryz.prog 8 #[.slice A n c] w fun e w' => e = .returned (.bool true) ∧ Below w.heap.size w w' := by
  obtain ⟨k, hk, hkc, hkn⟩ : ∃ k : Nat, min (n : Int) 20 = (k : Int) ∧ k ≤ c ∧ k ≤ n := ⟨min n 20, by omega, by have := hl.hc; omega, by omega⟩
  have hk20 : k ≤ 20 := by omega
  have hlk := hl.cut_to hkn
  have hS' : ∀ x ∈ l.take k, x.1.size ≤ 1048576 ∧ x.2.size ≤ 1048576 := fun x hx => hS x (List.mem_of_mem_take hx)
  have HE := Lib.hid hE
  clear hl hS hE
  generalize l.take k = l1 at *
  have HKL := Lib.hid hlk.hn
  have HEN := Lib.hid (encL_any A k c l1 w B hlk hB hk20 hS')
  have HL := Lib.hid hlk
  have HBW := Lib.hid hB
  have HSG := Lib.hid (form_signs (l1.map entB))
  have HPS := Lib.hid (fun (W : World) (hW : Below w.heap.size w W) (hz : (fbEncL (l1.map entB)).length ≤ 4000) => fbDecL_any (fbPs l1) (fbPs_not l1) (fbPs_ne l1) (fbPs_len l1 (by have := hlk.hn; omega)) (by rw [fbPs_join]; exact hz) W (HE.out.below hW))
  rw [fbPs_join, fbPs_dec] at HPS
  clear hS' hlk
  generalize fbEncL (l1.map entB) = L at *
  by_cases hL : 4000 < L.length
  · have HL4 := Lib.hid hL
    clear hL
    go_enter Tryz.func8, Tryz.ntmps8
    go_upto_region 4 with (go_at_call 19; refine HEN.out.mono ?_; rintro e w1 ⟨hb1, h1⟩; obtain ⟨_, rfl⟩ := h1.resolve_right (fun h => by have := HL4.out; omega))
    have HBG := Lib.hid (formBegun_any w1 (HE.out.below hb1))
    go_wp2_with (go_at_call 12; refine HBG.out.mono ?_; rintro e w9 ⟨rfl, hb9⟩)
    go_ret
    exact ⟨rfl, hb1.trans (hb9.mono hb1.size)⟩
  · have HL4 := Lib.hid (show L.length ≤ 4000 by omega)
    clear hL
    go_enter Tryz.func8, Tryz.ntmps8
    go_upto_region 6 with (go_at_call 19; refine HEN.out.mono ?_; rintro e w1 ⟨hb1, h1⟩; obtain ⟨_, rfl⟩ := h1.resolve_left (fun h => by have := HL4.out; omega))
    obtain ⟨sS, hsS⟩ : ∃ sS : ByteArray, (⟨L.toArray⟩ : ByteArray) = sS := ⟨_, rfl⟩
    have hsz : sS.size = L.length := by rw [← hsS]; rfl
    have hsd : sS.data.toList = L := by rw [← hsS]
    rw [hsS]
    have HSZ := Lib.hid (show sS.size ≤ 4000 from by have := HL4.out; omega)
    have hs4 := HSZ.out
    have HSO : Hid (∀ j (h : j < sS.size), signOk sS[j] = true) := fun j h => HSG.out _ (by rw [← hsd]; exact List.mem_of_getElem? (by rw [Array.getElem?_toList]; exact Array.getElem?_eq_getElem h))
    have HDC := Lib.hid (HPS.out w1 hb1 HL4.out)
    rw [hsS] at HDC
    have HB1 := Lib.hid hb1
    clear hsz hsd hsS hb1 HPS HSG
    go_loopw [5] (fun i wr => ∃ j : Nat, j ≤ sS.size ∧ i = .int .i64 (j : Int) ∧ wr = w1) (fun i _ => sS.size - (intOf i).toNat)
    case atStart => exact ⟨0, Nat.zero_le _, rfl, rfl⟩
    case round =>
      obtain ⟨j, hj, rfl, hwr⟩ := hrel
      obtain rfl : w1 = wr := hwr.symm
      by_cases hlt : j < sS.size
      · have hso := HSO.out j hlt
        have i1 : (0 : Int) ≤ (j : Int) := by omega
        have i2 : (j : Int) < (sS.size : Int) := by omega
        go_upto_region 9 with fail
        generalize sS[j] = u at *
        have hu8 := u.toNat_lt
        have hc := sign_cases u.toNat hu8 (by rw [fb_u8]; exact hso)
        clear hso
        rcases hc with ⟨p1, p2⟩ | ⟨p1, p2, p3⟩ | hn | hn | hn | hn | hn | hn | hn | hn
        · have d1 : ¬ bits .or .u8 (u.toNat : Int) 32 < 97 := by omega
          have d2 : ¬ 122 < bits .or .u8 (u.toNat : Int) 32 := by omega
          have d3 : decide (bits .or .u8 (u.toNat : Int) 32 < 97) = false := decide_eq_false d1
          have d4 : decide (122 < bits .or .u8 (u.toNat : Int) 32) = false := decide_eq_false d2
          clear p1 p2
          go_wp2_with fail
          go_roundw
          case rel => exact ⟨j + 1, by omega, by go_num, by first | trivial | rfl⟩
          case measure => simp [intOf]; omega
        · skip
          go_wp2_with fail
          go_roundw
          case rel => exact ⟨j + 1, by omega, by go_num, by first | trivial | rfl⟩
          case measure => simp [intOf]; omega
        · have vb : bits .or .u8 42 32 = 42 := by decide +kernel
          go_wp2_with fail
          go_roundw
          case rel => exact ⟨j + 1, by omega, by go_num, by first | trivial | rfl⟩
          case measure => simp [intOf]; omega
        · have vb : bits .or .u8 45 32 = 45 := by decide +kernel
          go_wp2_with fail
          go_roundw
          case rel => exact ⟨j + 1, by omega, by go_num, by first | trivial | rfl⟩
          case measure => simp [intOf]; omega
        · have vb : bits .or .u8 46 32 = 46 := by decide +kernel
          go_wp2_with fail
          go_roundw
          case rel => exact ⟨j + 1, by omega, by go_num, by first | trivial | rfl⟩
          case measure => simp [intOf]; omega
        · have vb : bits .or .u8 95 32 = 127 := by decide +kernel
          go_wp2_with fail
          go_roundw
          case rel => exact ⟨j + 1, by omega, by go_num, by first | trivial | rfl⟩
          case measure => simp [intOf]; omega
        · have vb : bits .or .u8 43 32 = 43 := by decide +kernel
          go_wp2_with fail
          go_roundw
          case rel => exact ⟨j + 1, by omega, by go_num, by first | trivial | rfl⟩
          case measure => simp [intOf]; omega
        · have vb : bits .or .u8 37 32 = 37 := by decide +kernel
          go_wp2_with fail
          go_roundw
          case rel => exact ⟨j + 1, by omega, by go_num, by first | trivial | rfl⟩
          case measure => simp [intOf]; omega
        · have vb : bits .or .u8 61 32 = 61 := by decide +kernel
          go_wp2_with fail
          go_roundw
          case rel => exact ⟨j + 1, by omega, by go_num, by first | trivial | rfl⟩
          case measure => simp [intOf]; omega
        · have vb : bits .or .u8 38 32 = 38 := by decide +kernel
          go_wp2_with fail
          go_roundw
          case rel => exact ⟨j + 1, by omega, by go_num, by first | trivial | rfl⟩
          case measure => simp [intOf]; omega
      · obtain rfl : j = sS.size := by omega
        have hne : ((l1.length : Int) != (k : Int)) = false := by rw [HKL.out]; simp
        go_upto_region 15 with (go_at_call 20; refine HDC.out.mono ?_; rintro e w2 ⟨hb2, v9, rfl, ho9⟩; obtain ⟨A9, c9, e9, hs9⟩ := OwnF.sl ho9 (by decide) (by have := HKL.out; show l1.length * 32 ≤ _; omega); subst e9)
        have HB2 := Lib.hid (HB1.out.trans (hb2.mono HB1.out.size))
        have HS9 := Lib.hid hs9
        have HBG := Lib.hid (fun (V : World) (hV : Below w2.heap.size w2 V) => formBegun_any V (HE.out.below (HB2.out.trans (hV.mono HB2.out.size))))
        clear hb2 hs9 ho9
        go_loopw [9] (fun i wr => ∃ j : Nat, j ≤ k ∧ i = .int .i64 (j : Int) ∧ Hid (Below w2.heap.size w2 wr)) (fun i _ => k - (intOf i).toNat)
        case atStart => exact ⟨0, Nat.zero_le _, rfl, Lib.hid (Below.refl _ _)⟩
        case round =>
          obtain ⟨j, hj, rfl, HW⟩ := hrel
          by_cases hjk : j < k
          · obtain ⟨x, hx⟩ := get_some (l := l1) (k := j) (by have := HKL.out; omega)
            obtain ⟨g, o, eA, _, a1, a2, _, _⟩ := da_get ((HL.out.below HB2.out HBW.out).below (HW.out.mono HB2.out.size) HBW.out) hx
            obtain ⟨g9, o9, e9, _, b1, b2, _, _⟩ := da_get (HS9.out.below HW.out (Nat.le_refl _)) hx
            subst eA
            subst e9
            have i1 : (0 : Int) ≤ (j : Int) := by omega
            have i2 : (j : Int) < (k : Int) := by omega
            have i3 : (j : Int) < (l1.length : Int) := by have := HKL.out; omega
            have HCW := Lib.hid (And.intro a1 (And.intro a2 (And.intro b1 b2)))
            clear hx a1 a2 b1 b2
            go_upto_region 17 with fail
            refine wp_region_G (S := fun V : World => V.cell? ⟨g, o + j * 2, none⟩ = some (.string x.1) ∧ V.cell? ⟨g, o + j * 2 + 1, none⟩ = some (.string x.2) ∧ V.cell? ⟨g9, o9 + j * 2, none⟩ = some (.string x.1) ∧ V.cell? ⟨g9, o9 + j * 2 + 1, none⟩ = some (.string x.2)) (T := []) (by kernel_rfl) ?_
            have hS : (fun V : World => V.cell? ⟨g, o + j * 2, none⟩ = some (.string x.1) ∧ V.cell? ⟨g, o + j * 2 + 1, none⟩ = some (.string x.2) ∧ V.cell? ⟨g9, o9 + j * 2, none⟩ = some (.string x.1) ∧ V.cell? ⟨g9, o9 + j * 2 + 1, none⟩ = some (.string x.2)) wr.drew := HCW.out
            refine wpAnyG_pure (i := 0) (v := ?_) rfl (by kernel_rfl) (by kernel_rfl) (by kernel_rfl) (fun _ _ _ h => h) rfl ?_ ?_
            rotate_left
            · intro w'
              first | (go_simp; done) | (go_simp; with_reducible rfl)
            refine wpAnyG_pure (i := 1) (v := ?_) rfl (by kernel_rfl) (by kernel_rfl) (by kernel_rfl) (fun _ _ _ h => h) rfl ?_ ?_
            rotate_left
            · intro w'
              first | (go_simp; done) | (go_simp; with_reducible rfl)
            refine wpAnyG_pure (i := 2) (v := ?_) rfl (by kernel_rfl) (by kernel_rfl) (by kernel_rfl) (fun _ _ _ h => h) rfl ?_ ?_
            rotate_left
            · intro w'
              first | (go_simp; done) | (go_simp; with_reducible rfl)
            refine wpAnyG_take (i := 3) (v := ?_) rfl (by kernel_rfl) (by kernel_rfl) (by kernel_rfl) (by kernel_rfl) (fun _ _ _ h => h) hS rfl ?_ ?_
            rotate_left
            · intro w' hSw
              (try dsimp only at hSw)
              first | (go_simp; done) | (go_simp; with_reducible rfl)
            refine wpAnyG_pure (i := 4) (v := ?_) rfl (by kernel_rfl) (by kernel_rfl) (by kernel_rfl) (fun _ _ _ h => h) rfl ?_ ?_
            rotate_left
            · intro w'
              first | (go_simp; done) | (go_simp; with_reducible rfl)
            refine wpAnyG_pure (i := 5) (v := ?_) rfl (by kernel_rfl) (by kernel_rfl) (by kernel_rfl) (fun _ _ _ h => h) rfl ?_ ?_
            rotate_left
            · intro w'
              first | (go_simp; done) | (go_simp; with_reducible rfl)
            refine wpAnyG_pure (i := 6) (v := ?_) rfl (by kernel_rfl) (by kernel_rfl) (by kernel_rfl) (fun _ _ _ h => h) rfl ?_ ?_
            rotate_left
            · intro w'
              first | (go_simp; done) | (go_simp; with_reducible rfl)
            refine wpAnyG_take (i := 7) (v := ?_) rfl (by kernel_rfl) (by kernel_rfl) (by kernel_rfl) (by kernel_rfl) (fun _ _ _ h => h) hS rfl ?_ ?_
            rotate_left
            · intro w' hSw
              (try dsimp only at hSw)
              first | (go_simp; done) | (go_simp; with_reducible rfl)
            refine wpAnyG_pure (i := 8) (v := ?_) rfl (by kernel_rfl) (by kernel_rfl) (by kernel_rfl) (fun _ _ _ h => h) rfl ?_ ?_
            rotate_left
            · intro w'
              first | (go_simp; done) | (go_simp; with_reducible rfl)
            clear hS
            refine wpAnyG_done (by kernel_rfl) ?_ _
            go_simp
            go_wp2_with fail
            go_roundw
            case rel => exact ⟨j + 1, by omega, by go_num, Lib.hid HW.out.drew⟩
            case measure => simp [intOf]; omega
          · obtain rfl : j = k := by omega
            go_wp2_with (go_at_call 12; refine (HBG.out _ HW.out).mono ?_; rintro e w9 ⟨rfl, hb9⟩)
            go_ret
            exact ⟨rfl, HB2.out.trans ((bst HW.out hb9).mono HB2.out.size)⟩
end Go.Proofs.YtpbngckplbnahaaGreatDoor
