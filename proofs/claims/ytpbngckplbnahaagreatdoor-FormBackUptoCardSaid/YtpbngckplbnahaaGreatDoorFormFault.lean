/-
Forms: the walk of Fault, where no bound is set.
-/
import Derived.Test.YtpbngckplbnahaaGreatDoorFormCtrl
import Derived.Test.YtpbngckplbnahaaGreatDoorRegionW
import Derived.Test.YtpbngckplbnahaaGreatDoorDecode
namespace Go.Proofs.YtpbngckplbnahaaGreatDoor
open Go.RowKit Go.Cl
attribute [local go_sem ↓] Go.wp_at_zero Go.wp_at_succ

theorem number_no (w : World) : Calls Tryz.prog 74 #[.string ⟨#[]⟩] w fun e w' => e = .returned (.tuple #[.int .i64 0, .bool false]) ∧ w' = w := by
  have HT := Lib.hid (Tryz.strings_TrimPrefix ⟨#[]⟩ ⟨#[45]⟩ w)
  go_enter Tryz.func74, Tryz.ntmps74
  go_wp2_with (go_at_call 118; refine HT.out.mono ?_; rintro e w1 ⟨rfl, rfl⟩)
  go_ret2
  exact ⟨rfl, rfl⟩
theorem below_drew0 (W : World) : Below W.heap.size W W.drew := ⟨rfl, rfl, rfl, Nat.le_refl _, fun _ _ => rfl⟩
section
variable {w : World} {B F : Nat} {A : Option Addr} {n c : Nat} {q : Bool} {O : Option Addr} {m k : Nat} {l : List Nd} {ord : List Int}
theorem bound_no (h : Fm w B F A n c q O m k l ord) {i : Nat} (hi : i < l.length) (nm : ByteArray) (hno : attrF l i nm = ⟨#[]⟩) (g : Nat) (lb : Array Value) :
    Calls Tryz.prog 36 #[.pointer (some ⟨F, 0, none⟩), .int .i64 (i : Int), .string nm, .func (.func g) #[] lb] w fun e w' => e = .returned (.bool false) ∧ Below w.heap.size w w' := by
  have HA := Lib.hid (attr_f h hi nm)
  rw [hno] at HA
  clear hno h hi
  go_enter Tryz.func36, Tryz.ntmps36
  go_wp2_with (first | (go_at_call 31; refine HA.out.mono ?_; rintro e w1 ⟨rfl, hb1⟩; have HB1 := Lib.hid hb1; clear hb1) | (go_at_call 74; refine (number_no _).mono ?_; rintro e w2 ⟨rfl, rfl⟩))
  go_ret
  exact ⟨rfl, HB1.out⟩
theorem wrong_no (G : Good l) (h : Fm w B F A n c q O m k l ord) {i : Nat} (hi : i < l.length) (hno : ((kindF l i).toList == ([110, 117, 109, 98, 101, 114] : List UInt8)) = false) :
    Calls Tryz.prog 39 #[.pointer (some ⟨F, 0, none⟩), .int .i64 (i : Int)] w fun e w' => e = .returned (.bool false) ∧ Below w.heap.size w w' := by
  have HK := Lib.hid (kind_f G h hi)
  generalize kindF l (i : Int) = kd at *
  have k2 : (kd.toList != ([110, 117, 109, 98, 101, 114] : List UInt8)) = true := by rw [bne, hno]; rfl
  clear h hi
  go_enter Tryz.func39, Tryz.ntmps39
  go_wp2_with (go_at_call 30; refine HK.out.mono ?_; rintro e w1 ⟨rfl, hb1⟩; have HB1 := Lib.hid hb1; clear hb1)
  go_ret
  exact ⟨rfl, HB1.out⟩
/-- A radio of the same name in the same form that is checked. -/
def sameF (l : List Nd) (ord : List Int) (n k : Int) : Bool :=
  (atD l k).name.toList == ([105, 110, 112, 117, 116] : List UInt8) && radioF l k && hasF l k (⟨#[99, 104, 101, 99, 107, 101, 100]⟩ : ByteArray) && (attrF l k (⟨#[110, 97, 109, 101]⟩ : ByteArray)).toList == (attrF l n (⟨#[110, 97, 109, 101]⟩ : ByteArray)).toList && ownerF l ord k == ownerF l ord n
def missF (l : List Nd) (ord : List Int) (n : Int) : Bool :=
  hasF l n (⟨#[114, 101, 113, 117, 105, 114, 101, 100]⟩ : ByteArray) && (if tickF (kindF l n) then !hasF l n (⟨#[99, 104, 101, 99, 107, 101, 100]⟩ : ByteArray) && ((kindF l n).toList == ([99, 104, 101, 99, 107, 98, 111, 120] : List UInt8) || !ord.any (sameF l ord n)) else decide ((valueF l n).size = 0))
set_option maxRecDepth 100000 in
set_option maxHeartbeats 8000000 in
theorem miss1_f (T : Tree l) (G : Good l) (h : Fm w B F A n c q O m k l ord) (hK : Known l ord) {i j X Y : Nat} (hi : i < l.length) (hj : j < l.length) (hX : w.heap[X]? = some (.cells #[.pointer (some ⟨F, 0, none⟩)] 68 (0, 0))) (hY : w.heap[Y]? = some (.cells #[.int .i64 (j : Int)] 3 (0, 0))) :
    Calls Tryz.prog 73 #[.int .i64 (i : Int), .pointer (some ⟨X, 0, none⟩), .pointer (some ⟨Y, 0, none⟩)] w fun e w' => e = .returned (.bool (sameF l ord j i)) ∧ Below w.heap.size w w' := by
  obtain ⟨x, hx⟩ := get_some hi
  obtain ⟨b, o, rfl, i2, hcell⟩ := h.name_at hx
  have hat : atD l i = x := atD_at hx
  have HR0 := Lib.hid (show sameF l ord j i = (x.name.toList == ([105, 110, 112, 117, 116] : List UInt8) && (kindF l i).toList == ([114, 97, 100, 105, 111] : List UInt8) && hasF l i (⟨#[99, 104, 101, 99, 107, 101, 100]⟩ : ByteArray) && (attrF l i (⟨#[110, 97, 109, 101]⟩ : ByteArray)).toList == (attrF l j (⟨#[110, 97, 109, 101]⟩ : ByteArray)).toList && ownerF l ord i == ownerF l ord j) from by unfold sameF radioF; rw [hat])
  have i1 : (0 : Int) ≤ (i : Int) := by omega
  have x0 := cell_blk (i := 0) hX rfl
  have y0 := cell_blk (i := 0) hY rfl
  have HCE : Hid (∀ V, Below w.heap.size w V → V.cell? ⟨X, 0, none⟩ = some (.pointer (some ⟨F, 0, none⟩)) ∧ V.cell? ⟨Y, 0, none⟩ = some (.int .i64 (j : Int)) ∧ V.cell? ⟨F, 0, none⟩ = some (.slice (some ⟨b, o, none⟩) n c) ∧ V.cell? ⟨b, o + i * 6 + 1, none⟩ = some (.string x.name)) := fun V hV => ⟨cell_be x0 hV, cell_be y0 hV, (hcell V hV).1, (hcell V hV).2⟩
  have HKD := Lib.hid (fun V (hV : Below w.heap.size w V) => kind_f G (h.below hV) hi)
  have HCK := Lib.hid (fun V (hV : Below w.heap.size w V) => has_f (h.below hV) hi (⟨#[99, 104, 101, 99, 107, 101, 100]⟩ : ByteArray))
  have HA1 := Lib.hid (fun V (hV : Below w.heap.size w V) => attr_f (h.below hV) hi (⟨#[110, 97, 109, 101]⟩ : ByteArray))
  have HA2 := Lib.hid (fun V (hV : Below w.heap.size w V) => attr_f (h.below hV) hj (⟨#[110, 97, 109, 101]⟩ : ByteArray))
  have HO1 := Lib.hid (fun V (hV : Below w.heap.size w V) => owner_f T (h.below hV) hK hi)
  have HO2 := Lib.hid (fun V (hV : Below w.heap.size w V) => owner_f T (h.below hV) hK hj)
  have HD : Hid (Below w.heap.size w w.drew) := Lib.hid (below_drew0 w)
  clear h hi hj hX hY hx hcell hat x0 y0 T G hK
  generalize kindF l (i : Int) = kd at *
  generalize hasF l (i : Int) (⟨#[99, 104, 101, 99, 107, 101, 100]⟩ : ByteArray) = ck at *
  generalize attrF l (i : Int) (⟨#[110, 97, 109, 101]⟩ : ByteArray) = a1 at *
  generalize attrF l (j : Int) (⟨#[110, 97, 109, 101]⟩ : ByteArray) = a2 at *
  generalize ownerF l ord (i : Int) = o1 at *
  generalize ownerF l ord (j : Int) = o2 at *
  go_enter Tryz.func73, Tryz.ntmps73
  go_upto_region 1 with fail
  cases h1 : (x.name.toList == ([105, 110, 112, 117, 116] : List UInt8)) with
  | false =>
    rw [h1] at HR0
    have HV := Lib.hid (show sameF l ord j i = false from HR0.out)
    refine wp_region_G (S := fun V : World => V.cell? ⟨X, 0, none⟩ = some (.pointer (some ⟨F, 0, none⟩)) ∧ V.cell? ⟨Y, 0, none⟩ = some (.int .i64 (j : Int)) ∧ V.cell? ⟨F, 0, none⟩ = some (.slice (some ⟨b, o, none⟩) n c) ∧ V.cell? ⟨b, o + i * 6 + 1, none⟩ = some (.string x.name)) (T := []) (by kernel_rfl) ?_
    have hS : (fun V : World => V.cell? ⟨X, 0, none⟩ = some (.pointer (some ⟨F, 0, none⟩)) ∧ V.cell? ⟨Y, 0, none⟩ = some (.int .i64 (j : Int)) ∧ V.cell? ⟨F, 0, none⟩ = some (.slice (some ⟨b, o, none⟩) n c) ∧ V.cell? ⟨b, o + i * 6 + 1, none⟩ = some (.string x.name)) w.drew := HCE.out w.drew HD.out
    refine wpAnyG_takeW (i := 0) (v := ?_) rfl (by kernel_rfl) (by kernel_rfl) (by kernel_rfl) (by kernel_rfl) (fun _ _ _ h => h) hS (by kernel_rfl) ?_ ?_
    rotate_left
    · intro w' hSw
      (try dsimp only at hSw)
      first | (go_simp; done) | (go_simp; with_reducible rfl)
    refine wpAnyG_pureW (i := 1) (v := ?_) rfl (by kernel_rfl) (by kernel_rfl) (by kernel_rfl) (fun _ _ _ h => h) (by kernel_rfl) ?_ ?_
    rotate_left
    · intro w'
      first | (go_simp; done) | (go_simp; with_reducible rfl)
    refine wpAnyG_pureW (i := 2) (v := ?_) rfl (by kernel_rfl) (by kernel_rfl) (by kernel_rfl) (fun _ _ _ h => h) (by kernel_rfl) ?_ ?_
    rotate_left
    · intro w'
      first | (go_simp; done) | (go_simp; with_reducible rfl)
    refine wpAnyG_pureW (i := 3) (v := ?_) rfl (by kernel_rfl) (by kernel_rfl) (by kernel_rfl) (fun _ _ _ h => h) (by kernel_rfl) ?_ ?_
    rotate_left
    · intro w'
      first | (go_simp; done) | (go_simp; with_reducible rfl)
    refine wpAnyG_takeW (i := 4) (v := ?_) rfl (by kernel_rfl) (by kernel_rfl) (by kernel_rfl) (by kernel_rfl) (fun _ _ _ h => h) hS (by kernel_rfl) ?_ ?_
    rotate_left
    · intro w' hSw
      (try dsimp only at hSw)
      first | (go_simp; done) | (go_simp; with_reducible rfl)
    refine wpAnyG_pureW (i := 5) (v := ?_) rfl (by kernel_rfl) (by kernel_rfl) (by kernel_rfl) (fun _ _ _ h => h) (by kernel_rfl) ?_ ?_
    rotate_left
    · intro w'
      first | (go_simp; done) | (go_simp; with_reducible rfl)
    refine wpAnyG_pureW (i := 6) (v := ?_) rfl (by kernel_rfl) (by kernel_rfl) (by kernel_rfl) (fun _ _ _ h => h) (by kernel_rfl) ?_ ?_
    rotate_left
    · intro w'
      first | (go_simp; done) | (go_simp; with_reducible rfl)
    refine wpAnyG_pureW (i := 7) (v := ?_) rfl (by kernel_rfl) (by kernel_rfl) (by kernel_rfl) (fun _ _ _ h => h) (by kernel_rfl) ?_ ?_
    rotate_left
    · intro w'
      first | (go_simp; done) | (go_simp; with_reducible rfl)
    refine wpAnyG_takeW (i := 8) (v := ?_) rfl (by kernel_rfl) (by kernel_rfl) (by kernel_rfl) (by kernel_rfl) (fun _ _ _ h => h) hS (by kernel_rfl) ?_ ?_
    rotate_left
    · intro w' hSw
      (try dsimp only at hSw)
      first | (go_simp; done) | (go_simp; with_reducible rfl)
    refine wpAnyG_pureW (i := 9) (v := .bool false) rfl (by kernel_rfl) (by kernel_rfl) (by kernel_rfl) (fun _ _ _ h => h) (by kernel_rfl) ?_ ?_
    · intro w'
      first | (go_simp; done) | (go_simp; with_reducible rfl)
    refine wpAnyG_pureW (i := 10) (v := .bool false) rfl (by kernel_rfl) (by kernel_rfl) (by kernel_rfl) (fun _ _ _ h => h) (by kernel_rfl) ?_ ?_
    · intro w'
      first | (go_simp; done) | (go_simp; with_reducible rfl)
    refine wpAnyG_skipW (i := 11) rfl (by kernel_rfl) (by kernel_rfl) (by kernel_rfl) (fun _ _ _ h => h) (by kernel_rfl) ?_
    refine wpAnyG_skipW (i := 12) rfl (by kernel_rfl) (by kernel_rfl) (by kernel_rfl) (fun _ _ _ h => h) (by kernel_rfl) ?_
    refine wpAnyG_skipW (i := 13) rfl (by kernel_rfl) (by kernel_rfl) (by kernel_rfl) (fun _ _ _ h => h) (by kernel_rfl) ?_
    refine wpAnyG_skipW (i := 14) rfl (by kernel_rfl) (by kernel_rfl) (by kernel_rfl) (fun _ _ _ h => h) (by kernel_rfl) ?_
    refine wpAnyG_pureW (i := 15) (v := .bool false) rfl (by kernel_rfl) (by kernel_rfl) (by kernel_rfl) (fun _ _ _ h => h) (by kernel_rfl) ?_ ?_
    · intro w'
      first | (go_simp; done) | (go_simp; with_reducible rfl)
    refine wpAnyG_pureW (i := 16) (v := .bool false) rfl (by kernel_rfl) (by kernel_rfl) (by kernel_rfl) (fun _ _ _ h => h) (by kernel_rfl) ?_ ?_
    · intro w'
      first | (go_simp; done) | (go_simp; with_reducible rfl)
    refine wpAnyG_skipW (i := 17) rfl (by kernel_rfl) (by kernel_rfl) (by kernel_rfl) (fun _ _ _ h => h) (by kernel_rfl) ?_
    refine wpAnyG_skipW (i := 18) rfl (by kernel_rfl) (by kernel_rfl) (by kernel_rfl) (fun _ _ _ h => h) (by kernel_rfl) ?_
    refine wpAnyG_skipW (i := 19) rfl (by kernel_rfl) (by kernel_rfl) (by kernel_rfl) (fun _ _ _ h => h) (by kernel_rfl) ?_
    refine wpAnyG_pureW (i := 20) (v := .bool false) rfl (by kernel_rfl) (by kernel_rfl) (by kernel_rfl) (fun _ _ _ h => h) (by kernel_rfl) ?_ ?_
    · intro w'
      first | (go_simp; done) | (go_simp; with_reducible rfl)
    refine wpAnyG_pureW (i := 21) (v := .bool false) rfl (by kernel_rfl) (by kernel_rfl) (by kernel_rfl) (fun _ _ _ h => h) (by kernel_rfl) ?_ ?_
    · intro w'
      first | (go_simp; done) | (go_simp; with_reducible rfl)
    refine wpAnyG_skipW (i := 22) rfl (by kernel_rfl) (by kernel_rfl) (by kernel_rfl) (fun _ _ _ h => h) (by kernel_rfl) ?_
    refine wpAnyG_skipW (i := 23) rfl (by kernel_rfl) (by kernel_rfl) (by kernel_rfl) (fun _ _ _ h => h) (by kernel_rfl) ?_
    refine wpAnyG_skipW (i := 24) rfl (by kernel_rfl) (by kernel_rfl) (by kernel_rfl) (fun _ _ _ h => h) (by kernel_rfl) ?_
    refine wpAnyG_skipW (i := 25) rfl (by kernel_rfl) (by kernel_rfl) (by kernel_rfl) (fun _ _ _ h => h) (by kernel_rfl) ?_
    refine wpAnyG_skipW (i := 26) rfl (by kernel_rfl) (by kernel_rfl) (by kernel_rfl) (fun _ _ _ h => h) (by kernel_rfl) ?_
    refine wpAnyG_skipW (i := 27) rfl (by kernel_rfl) (by kernel_rfl) (by kernel_rfl) (fun _ _ _ h => h) (by kernel_rfl) ?_
    refine wpAnyG_skipW (i := 28) rfl (by kernel_rfl) (by kernel_rfl) (by kernel_rfl) (fun _ _ _ h => h) (by kernel_rfl) ?_
    refine wpAnyG_pureW (i := 29) (v := .bool false) rfl (by kernel_rfl) (by kernel_rfl) (by kernel_rfl) (fun _ _ _ h => h) (by kernel_rfl) ?_ ?_
    · intro w'
      first | (go_simp; done) | (go_simp; with_reducible rfl)
    refine wpAnyG_pureW (i := 30) (v := .bool false) rfl (by kernel_rfl) (by kernel_rfl) (by kernel_rfl) (fun _ _ _ h => h) (by kernel_rfl) ?_ ?_
    · intro w'
      first | (go_simp; done) | (go_simp; with_reducible rfl)
    refine wpAnyG_skipW (i := 31) rfl (by kernel_rfl) (by kernel_rfl) (by kernel_rfl) (fun _ _ _ h => h) (by kernel_rfl) ?_
    refine wpAnyG_skipW (i := 32) rfl (by kernel_rfl) (by kernel_rfl) (by kernel_rfl) (fun _ _ _ h => h) (by kernel_rfl) ?_
    refine wpAnyG_skipW (i := 33) rfl (by kernel_rfl) (by kernel_rfl) (by kernel_rfl) (fun _ _ _ h => h) (by kernel_rfl) ?_
    refine wpAnyG_skipW (i := 34) rfl (by kernel_rfl) (by kernel_rfl) (by kernel_rfl) (fun _ _ _ h => h) (by kernel_rfl) ?_
    refine wpAnyG_skipW (i := 35) rfl (by kernel_rfl) (by kernel_rfl) (by kernel_rfl) (fun _ _ _ h => h) (by kernel_rfl) ?_
    refine wpAnyG_skipW (i := 36) rfl (by kernel_rfl) (by kernel_rfl) (by kernel_rfl) (fun _ _ _ h => h) (by kernel_rfl) ?_
    refine wpAnyG_skipW (i := 37) rfl (by kernel_rfl) (by kernel_rfl) (by kernel_rfl) (fun _ _ _ h => h) (by kernel_rfl) ?_
    refine wpAnyG_pureW (i := 38) (v := .bool false) rfl (by kernel_rfl) (by kernel_rfl) (by kernel_rfl) (fun _ _ _ h => h) (by kernel_rfl) ?_ ?_
    · intro w'
      first | (go_simp; done) | (go_simp; with_reducible rfl)
    refine wpAnyG_pureW (i := 39) (v := ?_) rfl (by kernel_rfl) (by kernel_rfl) (by kernel_rfl) (fun _ _ _ h => h) (by kernel_rfl) ?_ ?_
    rotate_left
    · intro w'
      first | (go_simp; done) | (go_simp; with_reducible rfl)
    refine wpAnyG_done (by kernel_rfl) ?_ _
    go_simp
    go_wp2_with fail
    go_ret
    exact ⟨by rw [HV.out]; rfl, HD.out⟩
  | true =>
    rw [h1] at HR0
    cases h2 : (kd.toList == ([114, 97, 100, 105, 111] : List UInt8)) with
    | false =>
      rw [h2] at HR0
      have HV := Lib.hid (show sameF l ord j i = false from HR0.out)
      refine wp_region_G (S := fun V : World => V.cell? ⟨X, 0, none⟩ = some (.pointer (some ⟨F, 0, none⟩)) ∧ V.cell? ⟨Y, 0, none⟩ = some (.int .i64 (j : Int)) ∧ V.cell? ⟨F, 0, none⟩ = some (.slice (some ⟨b, o, none⟩) n c) ∧ V.cell? ⟨b, o + i * 6 + 1, none⟩ = some (.string x.name)) (T := []) (by kernel_rfl) ?_
      have hS : (fun V : World => V.cell? ⟨X, 0, none⟩ = some (.pointer (some ⟨F, 0, none⟩)) ∧ V.cell? ⟨Y, 0, none⟩ = some (.int .i64 (j : Int)) ∧ V.cell? ⟨F, 0, none⟩ = some (.slice (some ⟨b, o, none⟩) n c) ∧ V.cell? ⟨b, o + i * 6 + 1, none⟩ = some (.string x.name)) w.drew := HCE.out w.drew HD.out
      refine wpAnyG_takeW (i := 0) (v := ?_) rfl (by kernel_rfl) (by kernel_rfl) (by kernel_rfl) (by kernel_rfl) (fun _ _ _ h => h) hS (by kernel_rfl) ?_ ?_
      rotate_left
      · intro w' hSw
        (try dsimp only at hSw)
        first | (go_simp; done) | (go_simp; with_reducible rfl)
      refine wpAnyG_pureW (i := 1) (v := ?_) rfl (by kernel_rfl) (by kernel_rfl) (by kernel_rfl) (fun _ _ _ h => h) (by kernel_rfl) ?_ ?_
      rotate_left
      · intro w'
        first | (go_simp; done) | (go_simp; with_reducible rfl)
      refine wpAnyG_pureW (i := 2) (v := ?_) rfl (by kernel_rfl) (by kernel_rfl) (by kernel_rfl) (fun _ _ _ h => h) (by kernel_rfl) ?_ ?_
      rotate_left
      · intro w'
        first | (go_simp; done) | (go_simp; with_reducible rfl)
      refine wpAnyG_pureW (i := 3) (v := ?_) rfl (by kernel_rfl) (by kernel_rfl) (by kernel_rfl) (fun _ _ _ h => h) (by kernel_rfl) ?_ ?_
      rotate_left
      · intro w'
        first | (go_simp; done) | (go_simp; with_reducible rfl)
      refine wpAnyG_takeW (i := 4) (v := ?_) rfl (by kernel_rfl) (by kernel_rfl) (by kernel_rfl) (by kernel_rfl) (fun _ _ _ h => h) hS (by kernel_rfl) ?_ ?_
      rotate_left
      · intro w' hSw
        (try dsimp only at hSw)
        first | (go_simp; done) | (go_simp; with_reducible rfl)
      refine wpAnyG_pureW (i := 5) (v := ?_) rfl (by kernel_rfl) (by kernel_rfl) (by kernel_rfl) (fun _ _ _ h => h) (by kernel_rfl) ?_ ?_
      rotate_left
      · intro w'
        first | (go_simp; done) | (go_simp; with_reducible rfl)
      refine wpAnyG_pureW (i := 6) (v := ?_) rfl (by kernel_rfl) (by kernel_rfl) (by kernel_rfl) (fun _ _ _ h => h) (by kernel_rfl) ?_ ?_
      rotate_left
      · intro w'
        first | (go_simp; done) | (go_simp; with_reducible rfl)
      refine wpAnyG_pureW (i := 7) (v := ?_) rfl (by kernel_rfl) (by kernel_rfl) (by kernel_rfl) (fun _ _ _ h => h) (by kernel_rfl) ?_ ?_
      rotate_left
      · intro w'
        first | (go_simp; done) | (go_simp; with_reducible rfl)
      refine wpAnyG_takeW (i := 8) (v := ?_) rfl (by kernel_rfl) (by kernel_rfl) (by kernel_rfl) (by kernel_rfl) (fun _ _ _ h => h) hS (by kernel_rfl) ?_ ?_
      rotate_left
      · intro w' hSw
        (try dsimp only at hSw)
        first | (go_simp; done) | (go_simp; with_reducible rfl)
      refine wpAnyG_pureW (i := 9) (v := .bool true) rfl (by kernel_rfl) (by kernel_rfl) (by kernel_rfl) (fun _ _ _ h => h) (by kernel_rfl) ?_ ?_
      · intro w'
        first | (go_simp; done) | (go_simp; with_reducible rfl)
      refine wpAnyG_pureW (i := 10) (v := .bool true) rfl (by kernel_rfl) (by kernel_rfl) (by kernel_rfl) (fun _ _ _ h => h) (by kernel_rfl) ?_ ?_
      · intro w'
        first | (go_simp; done) | (go_simp; with_reducible rfl)
      refine wpAnyG_takeW (i := 11) (v := ?_) rfl (by kernel_rfl) (by kernel_rfl) (by kernel_rfl) (by kernel_rfl) (fun _ _ _ h => h) hS (by kernel_rfl) ?_ ?_
      rotate_left
      · intro w' hSw
        (try dsimp only at hSw)
        first | (go_simp; done) | (go_simp; with_reducible rfl)
      refine wpAnyG_pureW (i := 12) (v := ?_) rfl (by kernel_rfl) (by kernel_rfl) (by kernel_rfl) (fun _ _ _ h => h) (by kernel_rfl) ?_ ?_
      rotate_left
      · intro w'
        first | (go_simp; done) | (go_simp; with_reducible rfl)
      refine wpAnyG_oneW (i := 13) (by kernel_rfl) rfl (by kernel_rfl) (fun K hK => ?_)
      go_simp
      go_at_call 30
      refine (HKD.out w.drew HD.out).mono ?_
      rintro e V1 ⟨rfl, hb⟩
      have HBV1 := Lib.hid (bst HD.out hb)
      clear hb
      go_wp2_with fail
      refine hK.out _ _ (fun _ _ => HCE.out V1 HBV1.out) ?_
      clear hK K hS
      have hS : (fun V : World => V.cell? ⟨X, 0, none⟩ = some (.pointer (some ⟨F, 0, none⟩)) ∧ V.cell? ⟨Y, 0, none⟩ = some (.int .i64 (j : Int)) ∧ V.cell? ⟨F, 0, none⟩ = some (.slice (some ⟨b, o, none⟩) n c) ∧ V.cell? ⟨b, o + i * 6 + 1, none⟩ = some (.string x.name)) V1 := HCE.out V1 HBV1.out
      refine wpAnyG_pureW (i := 14) (v := .bool false) rfl (by kernel_rfl) (by kernel_rfl) (by kernel_rfl) (fun _ _ _ h => h) (by kernel_rfl) ?_ ?_
      · intro w'
        first | (go_simp; done) | (go_simp; with_reducible rfl)
      refine wpAnyG_pureW (i := 15) (v := .bool false) rfl (by kernel_rfl) (by kernel_rfl) (by kernel_rfl) (fun _ _ _ h => h) (by kernel_rfl) ?_ ?_
      · intro w'
        first | (go_simp; done) | (go_simp; with_reducible rfl)
      refine wpAnyG_pureW (i := 16) (v := .bool false) rfl (by kernel_rfl) (by kernel_rfl) (by kernel_rfl) (fun _ _ _ h => h) (by kernel_rfl) ?_ ?_
      · intro w'
        first | (go_simp; done) | (go_simp; with_reducible rfl)
      refine wpAnyG_skipW (i := 17) rfl (by kernel_rfl) (by kernel_rfl) (by kernel_rfl) (fun _ _ _ h => h) (by kernel_rfl) ?_
      refine wpAnyG_skipW (i := 18) rfl (by kernel_rfl) (by kernel_rfl) (by kernel_rfl) (fun _ _ _ h => h) (by kernel_rfl) ?_
      refine wpAnyG_skipW (i := 19) rfl (by kernel_rfl) (by kernel_rfl) (by kernel_rfl) (fun _ _ _ h => h) (by kernel_rfl) ?_
      refine wpAnyG_pureW (i := 20) (v := .bool false) rfl (by kernel_rfl) (by kernel_rfl) (by kernel_rfl) (fun _ _ _ h => h) (by kernel_rfl) ?_ ?_
      · intro w'
        first | (go_simp; done) | (go_simp; with_reducible rfl)
      refine wpAnyG_pureW (i := 21) (v := .bool false) rfl (by kernel_rfl) (by kernel_rfl) (by kernel_rfl) (fun _ _ _ h => h) (by kernel_rfl) ?_ ?_
      · intro w'
        first | (go_simp; done) | (go_simp; with_reducible rfl)
      refine wpAnyG_skipW (i := 22) rfl (by kernel_rfl) (by kernel_rfl) (by kernel_rfl) (fun _ _ _ h => h) (by kernel_rfl) ?_
      refine wpAnyG_skipW (i := 23) rfl (by kernel_rfl) (by kernel_rfl) (by kernel_rfl) (fun _ _ _ h => h) (by kernel_rfl) ?_
      refine wpAnyG_skipW (i := 24) rfl (by kernel_rfl) (by kernel_rfl) (by kernel_rfl) (fun _ _ _ h => h) (by kernel_rfl) ?_
      refine wpAnyG_skipW (i := 25) rfl (by kernel_rfl) (by kernel_rfl) (by kernel_rfl) (fun _ _ _ h => h) (by kernel_rfl) ?_
      refine wpAnyG_skipW (i := 26) rfl (by kernel_rfl) (by kernel_rfl) (by kernel_rfl) (fun _ _ _ h => h) (by kernel_rfl) ?_
      refine wpAnyG_skipW (i := 27) rfl (by kernel_rfl) (by kernel_rfl) (by kernel_rfl) (fun _ _ _ h => h) (by kernel_rfl) ?_
      refine wpAnyG_skipW (i := 28) rfl (by kernel_rfl) (by kernel_rfl) (by kernel_rfl) (fun _ _ _ h => h) (by kernel_rfl) ?_
      refine wpAnyG_pureW (i := 29) (v := .bool false) rfl (by kernel_rfl) (by kernel_rfl) (by kernel_rfl) (fun _ _ _ h => h) (by kernel_rfl) ?_ ?_
      · intro w'
        first | (go_simp; done) | (go_simp; with_reducible rfl)
      refine wpAnyG_pureW (i := 30) (v := .bool false) rfl (by kernel_rfl) (by kernel_rfl) (by kernel_rfl) (fun _ _ _ h => h) (by kernel_rfl) ?_ ?_
      · intro w'
        first | (go_simp; done) | (go_simp; with_reducible rfl)
      refine wpAnyG_skipW (i := 31) rfl (by kernel_rfl) (by kernel_rfl) (by kernel_rfl) (fun _ _ _ h => h) (by kernel_rfl) ?_
      refine wpAnyG_skipW (i := 32) rfl (by kernel_rfl) (by kernel_rfl) (by kernel_rfl) (fun _ _ _ h => h) (by kernel_rfl) ?_
      refine wpAnyG_skipW (i := 33) rfl (by kernel_rfl) (by kernel_rfl) (by kernel_rfl) (fun _ _ _ h => h) (by kernel_rfl) ?_
      refine wpAnyG_skipW (i := 34) rfl (by kernel_rfl) (by kernel_rfl) (by kernel_rfl) (fun _ _ _ h => h) (by kernel_rfl) ?_
      refine wpAnyG_skipW (i := 35) rfl (by kernel_rfl) (by kernel_rfl) (by kernel_rfl) (fun _ _ _ h => h) (by kernel_rfl) ?_
      refine wpAnyG_skipW (i := 36) rfl (by kernel_rfl) (by kernel_rfl) (by kernel_rfl) (fun _ _ _ h => h) (by kernel_rfl) ?_
      refine wpAnyG_skipW (i := 37) rfl (by kernel_rfl) (by kernel_rfl) (by kernel_rfl) (fun _ _ _ h => h) (by kernel_rfl) ?_
      refine wpAnyG_pureW (i := 38) (v := .bool false) rfl (by kernel_rfl) (by kernel_rfl) (by kernel_rfl) (fun _ _ _ h => h) (by kernel_rfl) ?_ ?_
      · intro w'
        first | (go_simp; done) | (go_simp; with_reducible rfl)
      refine wpAnyG_pureW (i := 39) (v := ?_) rfl (by kernel_rfl) (by kernel_rfl) (by kernel_rfl) (fun _ _ _ h => h) (by kernel_rfl) ?_ ?_
      rotate_left
      · intro w'
        first | (go_simp; done) | (go_simp; with_reducible rfl)
      refine wpAnyG_done (by kernel_rfl) ?_ _
      go_simp
      go_wp2_with fail
      go_ret
      exact ⟨by rw [HV.out]; rfl, HBV1.out⟩
    | true =>
      rw [h2] at HR0
      cases ck with
      | false =>
        have HV := Lib.hid (show sameF l ord j i = false from HR0.out)
        refine wp_region_G (S := fun V : World => V.cell? ⟨X, 0, none⟩ = some (.pointer (some ⟨F, 0, none⟩)) ∧ V.cell? ⟨Y, 0, none⟩ = some (.int .i64 (j : Int)) ∧ V.cell? ⟨F, 0, none⟩ = some (.slice (some ⟨b, o, none⟩) n c) ∧ V.cell? ⟨b, o + i * 6 + 1, none⟩ = some (.string x.name)) (T := []) (by kernel_rfl) ?_
        have hS : (fun V : World => V.cell? ⟨X, 0, none⟩ = some (.pointer (some ⟨F, 0, none⟩)) ∧ V.cell? ⟨Y, 0, none⟩ = some (.int .i64 (j : Int)) ∧ V.cell? ⟨F, 0, none⟩ = some (.slice (some ⟨b, o, none⟩) n c) ∧ V.cell? ⟨b, o + i * 6 + 1, none⟩ = some (.string x.name)) w.drew := HCE.out w.drew HD.out
        refine wpAnyG_takeW (i := 0) (v := ?_) rfl (by kernel_rfl) (by kernel_rfl) (by kernel_rfl) (by kernel_rfl) (fun _ _ _ h => h) hS (by kernel_rfl) ?_ ?_
        rotate_left
        · intro w' hSw
          (try dsimp only at hSw)
          first | (go_simp; done) | (go_simp; with_reducible rfl)
        refine wpAnyG_pureW (i := 1) (v := ?_) rfl (by kernel_rfl) (by kernel_rfl) (by kernel_rfl) (fun _ _ _ h => h) (by kernel_rfl) ?_ ?_
        rotate_left
        · intro w'
          first | (go_simp; done) | (go_simp; with_reducible rfl)
        refine wpAnyG_pureW (i := 2) (v := ?_) rfl (by kernel_rfl) (by kernel_rfl) (by kernel_rfl) (fun _ _ _ h => h) (by kernel_rfl) ?_ ?_
        rotate_left
        · intro w'
          first | (go_simp; done) | (go_simp; with_reducible rfl)
        refine wpAnyG_pureW (i := 3) (v := ?_) rfl (by kernel_rfl) (by kernel_rfl) (by kernel_rfl) (fun _ _ _ h => h) (by kernel_rfl) ?_ ?_
        rotate_left
        · intro w'
          first | (go_simp; done) | (go_simp; with_reducible rfl)
        refine wpAnyG_takeW (i := 4) (v := ?_) rfl (by kernel_rfl) (by kernel_rfl) (by kernel_rfl) (by kernel_rfl) (fun _ _ _ h => h) hS (by kernel_rfl) ?_ ?_
        rotate_left
        · intro w' hSw
          (try dsimp only at hSw)
          first | (go_simp; done) | (go_simp; with_reducible rfl)
        refine wpAnyG_pureW (i := 5) (v := ?_) rfl (by kernel_rfl) (by kernel_rfl) (by kernel_rfl) (fun _ _ _ h => h) (by kernel_rfl) ?_ ?_
        rotate_left
        · intro w'
          first | (go_simp; done) | (go_simp; with_reducible rfl)
        refine wpAnyG_pureW (i := 6) (v := ?_) rfl (by kernel_rfl) (by kernel_rfl) (by kernel_rfl) (fun _ _ _ h => h) (by kernel_rfl) ?_ ?_
        rotate_left
        · intro w'
          first | (go_simp; done) | (go_simp; with_reducible rfl)
        refine wpAnyG_pureW (i := 7) (v := ?_) rfl (by kernel_rfl) (by kernel_rfl) (by kernel_rfl) (fun _ _ _ h => h) (by kernel_rfl) ?_ ?_
        rotate_left
        · intro w'
          first | (go_simp; done) | (go_simp; with_reducible rfl)
        refine wpAnyG_takeW (i := 8) (v := ?_) rfl (by kernel_rfl) (by kernel_rfl) (by kernel_rfl) (by kernel_rfl) (fun _ _ _ h => h) hS (by kernel_rfl) ?_ ?_
        rotate_left
        · intro w' hSw
          (try dsimp only at hSw)
          first | (go_simp; done) | (go_simp; with_reducible rfl)
        refine wpAnyG_pureW (i := 9) (v := .bool true) rfl (by kernel_rfl) (by kernel_rfl) (by kernel_rfl) (fun _ _ _ h => h) (by kernel_rfl) ?_ ?_
        · intro w'
          first | (go_simp; done) | (go_simp; with_reducible rfl)
        refine wpAnyG_pureW (i := 10) (v := .bool true) rfl (by kernel_rfl) (by kernel_rfl) (by kernel_rfl) (fun _ _ _ h => h) (by kernel_rfl) ?_ ?_
        · intro w'
          first | (go_simp; done) | (go_simp; with_reducible rfl)
        refine wpAnyG_takeW (i := 11) (v := ?_) rfl (by kernel_rfl) (by kernel_rfl) (by kernel_rfl) (by kernel_rfl) (fun _ _ _ h => h) hS (by kernel_rfl) ?_ ?_
        rotate_left
        · intro w' hSw
          (try dsimp only at hSw)
          first | (go_simp; done) | (go_simp; with_reducible rfl)
        refine wpAnyG_pureW (i := 12) (v := ?_) rfl (by kernel_rfl) (by kernel_rfl) (by kernel_rfl) (fun _ _ _ h => h) (by kernel_rfl) ?_ ?_
        rotate_left
        · intro w'
          first | (go_simp; done) | (go_simp; with_reducible rfl)
        refine wpAnyG_oneW (i := 13) (by kernel_rfl) rfl (by kernel_rfl) (fun K hK => ?_)
        go_simp
        go_at_call 30
        refine (HKD.out w.drew HD.out).mono ?_
        rintro e V1 ⟨rfl, hb⟩
        have HBV1 := Lib.hid (bst HD.out hb)
        clear hb
        go_wp2_with fail
        refine hK.out _ _ (fun _ _ => HCE.out V1 HBV1.out) ?_
        clear hK K hS
        have hS : (fun V : World => V.cell? ⟨X, 0, none⟩ = some (.pointer (some ⟨F, 0, none⟩)) ∧ V.cell? ⟨Y, 0, none⟩ = some (.int .i64 (j : Int)) ∧ V.cell? ⟨F, 0, none⟩ = some (.slice (some ⟨b, o, none⟩) n c) ∧ V.cell? ⟨b, o + i * 6 + 1, none⟩ = some (.string x.name)) V1 := HCE.out V1 HBV1.out
        refine wpAnyG_pureW (i := 14) (v := .bool true) rfl (by kernel_rfl) (by kernel_rfl) (by kernel_rfl) (fun _ _ _ h => h) (by kernel_rfl) ?_ ?_
        · intro w'
          first | (go_simp; done) | (go_simp; with_reducible rfl)
        refine wpAnyG_pureW (i := 15) (v := .bool true) rfl (by kernel_rfl) (by kernel_rfl) (by kernel_rfl) (fun _ _ _ h => h) (by kernel_rfl) ?_ ?_
        · intro w'
          first | (go_simp; done) | (go_simp; with_reducible rfl)
        refine wpAnyG_pureW (i := 16) (v := .bool true) rfl (by kernel_rfl) (by kernel_rfl) (by kernel_rfl) (fun _ _ _ h => h) (by kernel_rfl) ?_ ?_
        · intro w'
          first | (go_simp; done) | (go_simp; with_reducible rfl)
        refine wpAnyG_takeW (i := 17) (v := ?_) rfl (by kernel_rfl) (by kernel_rfl) (by kernel_rfl) (by kernel_rfl) (fun _ _ _ h => h) hS (by kernel_rfl) ?_ ?_
        rotate_left
        · intro w' hSw
          (try dsimp only at hSw)
          first | (go_simp; done) | (go_simp; with_reducible rfl)
        refine wpAnyG_pureW (i := 18) (v := ?_) rfl (by kernel_rfl) (by kernel_rfl) (by kernel_rfl) (fun _ _ _ h => h) (by kernel_rfl) ?_ ?_
        rotate_left
        · intro w'
          first | (go_simp; done) | (go_simp; with_reducible rfl)
        refine wpAnyG_oneW (i := 19) (by kernel_rfl) rfl (by kernel_rfl) (fun K hK => ?_)
        go_simp
        go_at_call 61
        refine (HCK.out V1 HBV1.out).mono ?_
        rintro e V2 ⟨rfl, hb⟩
        have HBV2 := Lib.hid (bst HBV1.out hb)
        clear hb
        go_wp2_with fail
        refine hK.out _ _ (fun _ _ => HCE.out V2 HBV2.out) ?_
        clear hK K hS
        have hS : (fun V : World => V.cell? ⟨X, 0, none⟩ = some (.pointer (some ⟨F, 0, none⟩)) ∧ V.cell? ⟨Y, 0, none⟩ = some (.int .i64 (j : Int)) ∧ V.cell? ⟨F, 0, none⟩ = some (.slice (some ⟨b, o, none⟩) n c) ∧ V.cell? ⟨b, o + i * 6 + 1, none⟩ = some (.string x.name)) V2 := HCE.out V2 HBV2.out
        refine wpAnyG_pureW (i := 20) (v := .bool false) rfl (by kernel_rfl) (by kernel_rfl) (by kernel_rfl) (fun _ _ _ h => h) (by kernel_rfl) ?_ ?_
        · intro w'
          first | (go_simp; done) | (go_simp; with_reducible rfl)
        refine wpAnyG_pureW (i := 21) (v := .bool false) rfl (by kernel_rfl) (by kernel_rfl) (by kernel_rfl) (fun _ _ _ h => h) (by kernel_rfl) ?_ ?_
        · intro w'
          first | (go_simp; done) | (go_simp; with_reducible rfl)
        refine wpAnyG_skipW (i := 22) rfl (by kernel_rfl) (by kernel_rfl) (by kernel_rfl) (fun _ _ _ h => h) (by kernel_rfl) ?_
        refine wpAnyG_skipW (i := 23) rfl (by kernel_rfl) (by kernel_rfl) (by kernel_rfl) (fun _ _ _ h => h) (by kernel_rfl) ?_
        refine wpAnyG_skipW (i := 24) rfl (by kernel_rfl) (by kernel_rfl) (by kernel_rfl) (fun _ _ _ h => h) (by kernel_rfl) ?_
        refine wpAnyG_skipW (i := 25) rfl (by kernel_rfl) (by kernel_rfl) (by kernel_rfl) (fun _ _ _ h => h) (by kernel_rfl) ?_
        refine wpAnyG_skipW (i := 26) rfl (by kernel_rfl) (by kernel_rfl) (by kernel_rfl) (fun _ _ _ h => h) (by kernel_rfl) ?_
        refine wpAnyG_skipW (i := 27) rfl (by kernel_rfl) (by kernel_rfl) (by kernel_rfl) (fun _ _ _ h => h) (by kernel_rfl) ?_
        refine wpAnyG_skipW (i := 28) rfl (by kernel_rfl) (by kernel_rfl) (by kernel_rfl) (fun _ _ _ h => h) (by kernel_rfl) ?_
        refine wpAnyG_pureW (i := 29) (v := .bool false) rfl (by kernel_rfl) (by kernel_rfl) (by kernel_rfl) (fun _ _ _ h => h) (by kernel_rfl) ?_ ?_
        · intro w'
          first | (go_simp; done) | (go_simp; with_reducible rfl)
        refine wpAnyG_pureW (i := 30) (v := .bool false) rfl (by kernel_rfl) (by kernel_rfl) (by kernel_rfl) (fun _ _ _ h => h) (by kernel_rfl) ?_ ?_
        · intro w'
          first | (go_simp; done) | (go_simp; with_reducible rfl)
        refine wpAnyG_skipW (i := 31) rfl (by kernel_rfl) (by kernel_rfl) (by kernel_rfl) (fun _ _ _ h => h) (by kernel_rfl) ?_
        refine wpAnyG_skipW (i := 32) rfl (by kernel_rfl) (by kernel_rfl) (by kernel_rfl) (fun _ _ _ h => h) (by kernel_rfl) ?_
        refine wpAnyG_skipW (i := 33) rfl (by kernel_rfl) (by kernel_rfl) (by kernel_rfl) (fun _ _ _ h => h) (by kernel_rfl) ?_
        refine wpAnyG_skipW (i := 34) rfl (by kernel_rfl) (by kernel_rfl) (by kernel_rfl) (fun _ _ _ h => h) (by kernel_rfl) ?_
        refine wpAnyG_skipW (i := 35) rfl (by kernel_rfl) (by kernel_rfl) (by kernel_rfl) (fun _ _ _ h => h) (by kernel_rfl) ?_
        refine wpAnyG_skipW (i := 36) rfl (by kernel_rfl) (by kernel_rfl) (by kernel_rfl) (fun _ _ _ h => h) (by kernel_rfl) ?_
        refine wpAnyG_skipW (i := 37) rfl (by kernel_rfl) (by kernel_rfl) (by kernel_rfl) (fun _ _ _ h => h) (by kernel_rfl) ?_
        refine wpAnyG_pureW (i := 38) (v := .bool false) rfl (by kernel_rfl) (by kernel_rfl) (by kernel_rfl) (fun _ _ _ h => h) (by kernel_rfl) ?_ ?_
        · intro w'
          first | (go_simp; done) | (go_simp; with_reducible rfl)
        refine wpAnyG_pureW (i := 39) (v := ?_) rfl (by kernel_rfl) (by kernel_rfl) (by kernel_rfl) (fun _ _ _ h => h) (by kernel_rfl) ?_ ?_
        rotate_left
        · intro w'
          first | (go_simp; done) | (go_simp; with_reducible rfl)
        refine wpAnyG_done (by kernel_rfl) ?_ _
        go_simp
        go_wp2_with fail
        go_ret
        exact ⟨by rw [HV.out]; rfl, HBV2.out⟩
      | true =>
        cases h4 : (a1.toList == a2.toList) with
        | false =>
          rw [h4] at HR0
          have HV := Lib.hid (show sameF l ord j i = false from HR0.out)
          refine wp_region_G (S := fun V : World => V.cell? ⟨X, 0, none⟩ = some (.pointer (some ⟨F, 0, none⟩)) ∧ V.cell? ⟨Y, 0, none⟩ = some (.int .i64 (j : Int)) ∧ V.cell? ⟨F, 0, none⟩ = some (.slice (some ⟨b, o, none⟩) n c) ∧ V.cell? ⟨b, o + i * 6 + 1, none⟩ = some (.string x.name)) (T := []) (by kernel_rfl) ?_
          have hS : (fun V : World => V.cell? ⟨X, 0, none⟩ = some (.pointer (some ⟨F, 0, none⟩)) ∧ V.cell? ⟨Y, 0, none⟩ = some (.int .i64 (j : Int)) ∧ V.cell? ⟨F, 0, none⟩ = some (.slice (some ⟨b, o, none⟩) n c) ∧ V.cell? ⟨b, o + i * 6 + 1, none⟩ = some (.string x.name)) w.drew := HCE.out w.drew HD.out
          refine wpAnyG_takeW (i := 0) (v := ?_) rfl (by kernel_rfl) (by kernel_rfl) (by kernel_rfl) (by kernel_rfl) (fun _ _ _ h => h) hS (by kernel_rfl) ?_ ?_
          rotate_left
          · intro w' hSw
            (try dsimp only at hSw)
            first | (go_simp; done) | (go_simp; with_reducible rfl)
          refine wpAnyG_pureW (i := 1) (v := ?_) rfl (by kernel_rfl) (by kernel_rfl) (by kernel_rfl) (fun _ _ _ h => h) (by kernel_rfl) ?_ ?_
          rotate_left
          · intro w'
            first | (go_simp; done) | (go_simp; with_reducible rfl)
          refine wpAnyG_pureW (i := 2) (v := ?_) rfl (by kernel_rfl) (by kernel_rfl) (by kernel_rfl) (fun _ _ _ h => h) (by kernel_rfl) ?_ ?_
          rotate_left
          · intro w'
            first | (go_simp; done) | (go_simp; with_reducible rfl)
          refine wpAnyG_pureW (i := 3) (v := ?_) rfl (by kernel_rfl) (by kernel_rfl) (by kernel_rfl) (fun _ _ _ h => h) (by kernel_rfl) ?_ ?_
          rotate_left
          · intro w'
            first | (go_simp; done) | (go_simp; with_reducible rfl)
          refine wpAnyG_takeW (i := 4) (v := ?_) rfl (by kernel_rfl) (by kernel_rfl) (by kernel_rfl) (by kernel_rfl) (fun _ _ _ h => h) hS (by kernel_rfl) ?_ ?_
          rotate_left
          · intro w' hSw
            (try dsimp only at hSw)
            first | (go_simp; done) | (go_simp; with_reducible rfl)
          refine wpAnyG_pureW (i := 5) (v := ?_) rfl (by kernel_rfl) (by kernel_rfl) (by kernel_rfl) (fun _ _ _ h => h) (by kernel_rfl) ?_ ?_
          rotate_left
          · intro w'
            first | (go_simp; done) | (go_simp; with_reducible rfl)
          refine wpAnyG_pureW (i := 6) (v := ?_) rfl (by kernel_rfl) (by kernel_rfl) (by kernel_rfl) (fun _ _ _ h => h) (by kernel_rfl) ?_ ?_
          rotate_left
          · intro w'
            first | (go_simp; done) | (go_simp; with_reducible rfl)
          refine wpAnyG_pureW (i := 7) (v := ?_) rfl (by kernel_rfl) (by kernel_rfl) (by kernel_rfl) (fun _ _ _ h => h) (by kernel_rfl) ?_ ?_
          rotate_left
          · intro w'
            first | (go_simp; done) | (go_simp; with_reducible rfl)
          refine wpAnyG_takeW (i := 8) (v := ?_) rfl (by kernel_rfl) (by kernel_rfl) (by kernel_rfl) (by kernel_rfl) (fun _ _ _ h => h) hS (by kernel_rfl) ?_ ?_
          rotate_left
          · intro w' hSw
            (try dsimp only at hSw)
            first | (go_simp; done) | (go_simp; with_reducible rfl)
          refine wpAnyG_pureW (i := 9) (v := .bool true) rfl (by kernel_rfl) (by kernel_rfl) (by kernel_rfl) (fun _ _ _ h => h) (by kernel_rfl) ?_ ?_
          · intro w'
            first | (go_simp; done) | (go_simp; with_reducible rfl)
          refine wpAnyG_pureW (i := 10) (v := .bool true) rfl (by kernel_rfl) (by kernel_rfl) (by kernel_rfl) (fun _ _ _ h => h) (by kernel_rfl) ?_ ?_
          · intro w'
            first | (go_simp; done) | (go_simp; with_reducible rfl)
          refine wpAnyG_takeW (i := 11) (v := ?_) rfl (by kernel_rfl) (by kernel_rfl) (by kernel_rfl) (by kernel_rfl) (fun _ _ _ h => h) hS (by kernel_rfl) ?_ ?_
          rotate_left
          · intro w' hSw
            (try dsimp only at hSw)
            first | (go_simp; done) | (go_simp; with_reducible rfl)
          refine wpAnyG_pureW (i := 12) (v := ?_) rfl (by kernel_rfl) (by kernel_rfl) (by kernel_rfl) (fun _ _ _ h => h) (by kernel_rfl) ?_ ?_
          rotate_left
          · intro w'
            first | (go_simp; done) | (go_simp; with_reducible rfl)
          refine wpAnyG_oneW (i := 13) (by kernel_rfl) rfl (by kernel_rfl) (fun K hK => ?_)
          go_simp
          go_at_call 30
          refine (HKD.out w.drew HD.out).mono ?_
          rintro e V1 ⟨rfl, hb⟩
          have HBV1 := Lib.hid (bst HD.out hb)
          clear hb
          go_wp2_with fail
          refine hK.out _ _ (fun _ _ => HCE.out V1 HBV1.out) ?_
          clear hK K hS
          have hS : (fun V : World => V.cell? ⟨X, 0, none⟩ = some (.pointer (some ⟨F, 0, none⟩)) ∧ V.cell? ⟨Y, 0, none⟩ = some (.int .i64 (j : Int)) ∧ V.cell? ⟨F, 0, none⟩ = some (.slice (some ⟨b, o, none⟩) n c) ∧ V.cell? ⟨b, o + i * 6 + 1, none⟩ = some (.string x.name)) V1 := HCE.out V1 HBV1.out
          refine wpAnyG_pureW (i := 14) (v := .bool true) rfl (by kernel_rfl) (by kernel_rfl) (by kernel_rfl) (fun _ _ _ h => h) (by kernel_rfl) ?_ ?_
          · intro w'
            first | (go_simp; done) | (go_simp; with_reducible rfl)
          refine wpAnyG_pureW (i := 15) (v := .bool true) rfl (by kernel_rfl) (by kernel_rfl) (by kernel_rfl) (fun _ _ _ h => h) (by kernel_rfl) ?_ ?_
          · intro w'
            first | (go_simp; done) | (go_simp; with_reducible rfl)
          refine wpAnyG_pureW (i := 16) (v := .bool true) rfl (by kernel_rfl) (by kernel_rfl) (by kernel_rfl) (fun _ _ _ h => h) (by kernel_rfl) ?_ ?_
          · intro w'
            first | (go_simp; done) | (go_simp; with_reducible rfl)
          refine wpAnyG_takeW (i := 17) (v := ?_) rfl (by kernel_rfl) (by kernel_rfl) (by kernel_rfl) (by kernel_rfl) (fun _ _ _ h => h) hS (by kernel_rfl) ?_ ?_
          rotate_left
          · intro w' hSw
            (try dsimp only at hSw)
            first | (go_simp; done) | (go_simp; with_reducible rfl)
          refine wpAnyG_pureW (i := 18) (v := ?_) rfl (by kernel_rfl) (by kernel_rfl) (by kernel_rfl) (fun _ _ _ h => h) (by kernel_rfl) ?_ ?_
          rotate_left
          · intro w'
            first | (go_simp; done) | (go_simp; with_reducible rfl)
          refine wpAnyG_oneW (i := 19) (by kernel_rfl) rfl (by kernel_rfl) (fun K hK => ?_)
          go_simp
          go_at_call 61
          refine (HCK.out V1 HBV1.out).mono ?_
          rintro e V2 ⟨rfl, hb⟩
          have HBV2 := Lib.hid (bst HBV1.out hb)
          clear hb
          go_wp2_with fail
          refine hK.out _ _ (fun _ _ => HCE.out V2 HBV2.out) ?_
          clear hK K hS
          have hS : (fun V : World => V.cell? ⟨X, 0, none⟩ = some (.pointer (some ⟨F, 0, none⟩)) ∧ V.cell? ⟨Y, 0, none⟩ = some (.int .i64 (j : Int)) ∧ V.cell? ⟨F, 0, none⟩ = some (.slice (some ⟨b, o, none⟩) n c) ∧ V.cell? ⟨b, o + i * 6 + 1, none⟩ = some (.string x.name)) V2 := HCE.out V2 HBV2.out
          refine wpAnyG_pureW (i := 20) (v := .bool true) rfl (by kernel_rfl) (by kernel_rfl) (by kernel_rfl) (fun _ _ _ h => h) (by kernel_rfl) ?_ ?_
          · intro w'
            first | (go_simp; done) | (go_simp; with_reducible rfl)
          refine wpAnyG_pureW (i := 21) (v := .bool true) rfl (by kernel_rfl) (by kernel_rfl) (by kernel_rfl) (fun _ _ _ h => h) (by kernel_rfl) ?_ ?_
          · intro w'
            first | (go_simp; done) | (go_simp; with_reducible rfl)
          refine wpAnyG_takeW (i := 22) (v := ?_) rfl (by kernel_rfl) (by kernel_rfl) (by kernel_rfl) (by kernel_rfl) (fun _ _ _ h => h) hS (by kernel_rfl) ?_ ?_
          rotate_left
          · intro w' hSw
            (try dsimp only at hSw)
            first | (go_simp; done) | (go_simp; with_reducible rfl)
          refine wpAnyG_pureW (i := 23) (v := ?_) rfl (by kernel_rfl) (by kernel_rfl) (by kernel_rfl) (fun _ _ _ h => h) (by kernel_rfl) ?_ ?_
          rotate_left
          · intro w'
            first | (go_simp; done) | (go_simp; with_reducible rfl)
          refine wpAnyG_takeW (i := 25) (v := ?_) rfl (by kernel_rfl) (by kernel_rfl) (by kernel_rfl) (by kernel_rfl) (fun _ _ _ h => h) hS (by kernel_rfl) ?_ ?_
          rotate_left
          · intro w' hSw
            (try dsimp only at hSw)
            first | (go_simp; done) | (go_simp; with_reducible rfl)
          refine wpAnyG_takeW (i := 26) (v := ?_) rfl (by kernel_rfl) (by kernel_rfl) (by kernel_rfl) (by kernel_rfl) (fun _ _ _ h => h) hS (by kernel_rfl) ?_ ?_
          rotate_left
          · intro w' hSw
            (try dsimp only at hSw)
            first | (go_simp; done) | (go_simp; with_reducible rfl)
          refine wpAnyG_oneW (i := 24) (by kernel_rfl) rfl (by kernel_rfl) (fun K hK => ?_)
          go_simp
          go_at_call 31
          refine (HA1.out V2 HBV2.out).mono ?_
          rintro e V3 ⟨rfl, hb⟩
          have HBV3 := Lib.hid (bst HBV2.out hb)
          clear hb
          go_wp2_with fail
          refine hK.out _ _ (fun _ _ => HCE.out V3 HBV3.out) ?_
          clear hK K hS
          have hS : (fun V : World => V.cell? ⟨X, 0, none⟩ = some (.pointer (some ⟨F, 0, none⟩)) ∧ V.cell? ⟨Y, 0, none⟩ = some (.int .i64 (j : Int)) ∧ V.cell? ⟨F, 0, none⟩ = some (.slice (some ⟨b, o, none⟩) n c) ∧ V.cell? ⟨b, o + i * 6 + 1, none⟩ = some (.string x.name)) V3 := HCE.out V3 HBV3.out
          refine wpAnyG_oneW (i := 27) (by kernel_rfl) rfl (by kernel_rfl) (fun K hK => ?_)
          go_simp
          go_at_call 31
          refine (HA2.out V3 HBV3.out).mono ?_
          rintro e V4 ⟨rfl, hb⟩
          have HBV4 := Lib.hid (bst HBV3.out hb)
          clear hb
          go_wp2_with fail
          refine hK.out _ _ (fun _ _ => HCE.out V4 HBV4.out) ?_
          clear hK K hS
          have hS : (fun V : World => V.cell? ⟨X, 0, none⟩ = some (.pointer (some ⟨F, 0, none⟩)) ∧ V.cell? ⟨Y, 0, none⟩ = some (.int .i64 (j : Int)) ∧ V.cell? ⟨F, 0, none⟩ = some (.slice (some ⟨b, o, none⟩) n c) ∧ V.cell? ⟨b, o + i * 6 + 1, none⟩ = some (.string x.name)) V4 := HCE.out V4 HBV4.out
          refine wpAnyG_pureW (i := 28) (v := .bool false) rfl (by kernel_rfl) (by kernel_rfl) (by kernel_rfl) (fun _ _ _ h => h) (by kernel_rfl) ?_ ?_
          · intro w'
            first | (go_simp; done) | (go_simp; with_reducible rfl)
          refine wpAnyG_pureW (i := 29) (v := .bool false) rfl (by kernel_rfl) (by kernel_rfl) (by kernel_rfl) (fun _ _ _ h => h) (by kernel_rfl) ?_ ?_
          · intro w'
            first | (go_simp; done) | (go_simp; with_reducible rfl)
          refine wpAnyG_pureW (i := 30) (v := .bool false) rfl (by kernel_rfl) (by kernel_rfl) (by kernel_rfl) (fun _ _ _ h => h) (by kernel_rfl) ?_ ?_
          · intro w'
            first | (go_simp; done) | (go_simp; with_reducible rfl)
          refine wpAnyG_skipW (i := 31) rfl (by kernel_rfl) (by kernel_rfl) (by kernel_rfl) (fun _ _ _ h => h) (by kernel_rfl) ?_
          refine wpAnyG_skipW (i := 32) rfl (by kernel_rfl) (by kernel_rfl) (by kernel_rfl) (fun _ _ _ h => h) (by kernel_rfl) ?_
          refine wpAnyG_skipW (i := 33) rfl (by kernel_rfl) (by kernel_rfl) (by kernel_rfl) (fun _ _ _ h => h) (by kernel_rfl) ?_
          refine wpAnyG_skipW (i := 34) rfl (by kernel_rfl) (by kernel_rfl) (by kernel_rfl) (fun _ _ _ h => h) (by kernel_rfl) ?_
          refine wpAnyG_skipW (i := 35) rfl (by kernel_rfl) (by kernel_rfl) (by kernel_rfl) (fun _ _ _ h => h) (by kernel_rfl) ?_
          refine wpAnyG_skipW (i := 36) rfl (by kernel_rfl) (by kernel_rfl) (by kernel_rfl) (fun _ _ _ h => h) (by kernel_rfl) ?_
          refine wpAnyG_skipW (i := 37) rfl (by kernel_rfl) (by kernel_rfl) (by kernel_rfl) (fun _ _ _ h => h) (by kernel_rfl) ?_
          refine wpAnyG_pureW (i := 38) (v := .bool false) rfl (by kernel_rfl) (by kernel_rfl) (by kernel_rfl) (fun _ _ _ h => h) (by kernel_rfl) ?_ ?_
          · intro w'
            first | (go_simp; done) | (go_simp; with_reducible rfl)
          refine wpAnyG_pureW (i := 39) (v := ?_) rfl (by kernel_rfl) (by kernel_rfl) (by kernel_rfl) (fun _ _ _ h => h) (by kernel_rfl) ?_ ?_
          rotate_left
          · intro w'
            first | (go_simp; done) | (go_simp; with_reducible rfl)
          refine wpAnyG_done (by kernel_rfl) ?_ _
          go_simp
          go_wp2_with fail
          go_ret
          exact ⟨by rw [HV.out]; rfl, HBV4.out⟩
        | true =>
          rw [h4] at HR0
          cases h5 : (o1 == o2) with
          | false =>
            rw [h5] at HR0
            have HV := Lib.hid (show sameF l ord j i = false from HR0.out)
            refine wp_region_G (S := fun V : World => V.cell? ⟨X, 0, none⟩ = some (.pointer (some ⟨F, 0, none⟩)) ∧ V.cell? ⟨Y, 0, none⟩ = some (.int .i64 (j : Int)) ∧ V.cell? ⟨F, 0, none⟩ = some (.slice (some ⟨b, o, none⟩) n c) ∧ V.cell? ⟨b, o + i * 6 + 1, none⟩ = some (.string x.name)) (T := []) (by kernel_rfl) ?_
            have hS : (fun V : World => V.cell? ⟨X, 0, none⟩ = some (.pointer (some ⟨F, 0, none⟩)) ∧ V.cell? ⟨Y, 0, none⟩ = some (.int .i64 (j : Int)) ∧ V.cell? ⟨F, 0, none⟩ = some (.slice (some ⟨b, o, none⟩) n c) ∧ V.cell? ⟨b, o + i * 6 + 1, none⟩ = some (.string x.name)) w.drew := HCE.out w.drew HD.out
            refine wpAnyG_takeW (i := 0) (v := ?_) rfl (by kernel_rfl) (by kernel_rfl) (by kernel_rfl) (by kernel_rfl) (fun _ _ _ h => h) hS (by kernel_rfl) ?_ ?_
            rotate_left
            · intro w' hSw
              (try dsimp only at hSw)
              first | (go_simp; done) | (go_simp; with_reducible rfl)
            refine wpAnyG_pureW (i := 1) (v := ?_) rfl (by kernel_rfl) (by kernel_rfl) (by kernel_rfl) (fun _ _ _ h => h) (by kernel_rfl) ?_ ?_
            rotate_left
            · intro w'
              first | (go_simp; done) | (go_simp; with_reducible rfl)
            refine wpAnyG_pureW (i := 2) (v := ?_) rfl (by kernel_rfl) (by kernel_rfl) (by kernel_rfl) (fun _ _ _ h => h) (by kernel_rfl) ?_ ?_
            rotate_left
            · intro w'
              first | (go_simp; done) | (go_simp; with_reducible rfl)
            refine wpAnyG_pureW (i := 3) (v := ?_) rfl (by kernel_rfl) (by kernel_rfl) (by kernel_rfl) (fun _ _ _ h => h) (by kernel_rfl) ?_ ?_
            rotate_left
            · intro w'
              first | (go_simp; done) | (go_simp; with_reducible rfl)
            refine wpAnyG_takeW (i := 4) (v := ?_) rfl (by kernel_rfl) (by kernel_rfl) (by kernel_rfl) (by kernel_rfl) (fun _ _ _ h => h) hS (by kernel_rfl) ?_ ?_
            rotate_left
            · intro w' hSw
              (try dsimp only at hSw)
              first | (go_simp; done) | (go_simp; with_reducible rfl)
            refine wpAnyG_pureW (i := 5) (v := ?_) rfl (by kernel_rfl) (by kernel_rfl) (by kernel_rfl) (fun _ _ _ h => h) (by kernel_rfl) ?_ ?_
            rotate_left
            · intro w'
              first | (go_simp; done) | (go_simp; with_reducible rfl)
            refine wpAnyG_pureW (i := 6) (v := ?_) rfl (by kernel_rfl) (by kernel_rfl) (by kernel_rfl) (fun _ _ _ h => h) (by kernel_rfl) ?_ ?_
            rotate_left
            · intro w'
              first | (go_simp; done) | (go_simp; with_reducible rfl)
            refine wpAnyG_pureW (i := 7) (v := ?_) rfl (by kernel_rfl) (by kernel_rfl) (by kernel_rfl) (fun _ _ _ h => h) (by kernel_rfl) ?_ ?_
            rotate_left
            · intro w'
              first | (go_simp; done) | (go_simp; with_reducible rfl)
            refine wpAnyG_takeW (i := 8) (v := ?_) rfl (by kernel_rfl) (by kernel_rfl) (by kernel_rfl) (by kernel_rfl) (fun _ _ _ h => h) hS (by kernel_rfl) ?_ ?_
            rotate_left
            · intro w' hSw
              (try dsimp only at hSw)
              first | (go_simp; done) | (go_simp; with_reducible rfl)
            refine wpAnyG_pureW (i := 9) (v := .bool true) rfl (by kernel_rfl) (by kernel_rfl) (by kernel_rfl) (fun _ _ _ h => h) (by kernel_rfl) ?_ ?_
            · intro w'
              first | (go_simp; done) | (go_simp; with_reducible rfl)
            refine wpAnyG_pureW (i := 10) (v := .bool true) rfl (by kernel_rfl) (by kernel_rfl) (by kernel_rfl) (fun _ _ _ h => h) (by kernel_rfl) ?_ ?_
            · intro w'
              first | (go_simp; done) | (go_simp; with_reducible rfl)
            refine wpAnyG_takeW (i := 11) (v := ?_) rfl (by kernel_rfl) (by kernel_rfl) (by kernel_rfl) (by kernel_rfl) (fun _ _ _ h => h) hS (by kernel_rfl) ?_ ?_
            rotate_left
            · intro w' hSw
              (try dsimp only at hSw)
              first | (go_simp; done) | (go_simp; with_reducible rfl)
            refine wpAnyG_pureW (i := 12) (v := ?_) rfl (by kernel_rfl) (by kernel_rfl) (by kernel_rfl) (fun _ _ _ h => h) (by kernel_rfl) ?_ ?_
            rotate_left
            · intro w'
              first | (go_simp; done) | (go_simp; with_reducible rfl)
            refine wpAnyG_oneW (i := 13) (by kernel_rfl) rfl (by kernel_rfl) (fun K hK => ?_)
            go_simp
            go_at_call 30
            refine (HKD.out w.drew HD.out).mono ?_
            rintro e V1 ⟨rfl, hb⟩
            have HBV1 := Lib.hid (bst HD.out hb)
            clear hb
            go_wp2_with fail
            refine hK.out _ _ (fun _ _ => HCE.out V1 HBV1.out) ?_
            clear hK K hS
            have hS : (fun V : World => V.cell? ⟨X, 0, none⟩ = some (.pointer (some ⟨F, 0, none⟩)) ∧ V.cell? ⟨Y, 0, none⟩ = some (.int .i64 (j : Int)) ∧ V.cell? ⟨F, 0, none⟩ = some (.slice (some ⟨b, o, none⟩) n c) ∧ V.cell? ⟨b, o + i * 6 + 1, none⟩ = some (.string x.name)) V1 := HCE.out V1 HBV1.out
            refine wpAnyG_pureW (i := 14) (v := .bool true) rfl (by kernel_rfl) (by kernel_rfl) (by kernel_rfl) (fun _ _ _ h => h) (by kernel_rfl) ?_ ?_
            · intro w'
              first | (go_simp; done) | (go_simp; with_reducible rfl)
            refine wpAnyG_pureW (i := 15) (v := .bool true) rfl (by kernel_rfl) (by kernel_rfl) (by kernel_rfl) (fun _ _ _ h => h) (by kernel_rfl) ?_ ?_
            · intro w'
              first | (go_simp; done) | (go_simp; with_reducible rfl)
            refine wpAnyG_pureW (i := 16) (v := .bool true) rfl (by kernel_rfl) (by kernel_rfl) (by kernel_rfl) (fun _ _ _ h => h) (by kernel_rfl) ?_ ?_
            · intro w'
              first | (go_simp; done) | (go_simp; with_reducible rfl)
            refine wpAnyG_takeW (i := 17) (v := ?_) rfl (by kernel_rfl) (by kernel_rfl) (by kernel_rfl) (by kernel_rfl) (fun _ _ _ h => h) hS (by kernel_rfl) ?_ ?_
            rotate_left
            · intro w' hSw
              (try dsimp only at hSw)
              first | (go_simp; done) | (go_simp; with_reducible rfl)
            refine wpAnyG_pureW (i := 18) (v := ?_) rfl (by kernel_rfl) (by kernel_rfl) (by kernel_rfl) (fun _ _ _ h => h) (by kernel_rfl) ?_ ?_
            rotate_left
            · intro w'
              first | (go_simp; done) | (go_simp; with_reducible rfl)
            refine wpAnyG_oneW (i := 19) (by kernel_rfl) rfl (by kernel_rfl) (fun K hK => ?_)
            go_simp
            go_at_call 61
            refine (HCK.out V1 HBV1.out).mono ?_
            rintro e V2 ⟨rfl, hb⟩
            have HBV2 := Lib.hid (bst HBV1.out hb)
            clear hb
            go_wp2_with fail
            refine hK.out _ _ (fun _ _ => HCE.out V2 HBV2.out) ?_
            clear hK K hS
            have hS : (fun V : World => V.cell? ⟨X, 0, none⟩ = some (.pointer (some ⟨F, 0, none⟩)) ∧ V.cell? ⟨Y, 0, none⟩ = some (.int .i64 (j : Int)) ∧ V.cell? ⟨F, 0, none⟩ = some (.slice (some ⟨b, o, none⟩) n c) ∧ V.cell? ⟨b, o + i * 6 + 1, none⟩ = some (.string x.name)) V2 := HCE.out V2 HBV2.out
            refine wpAnyG_pureW (i := 20) (v := .bool true) rfl (by kernel_rfl) (by kernel_rfl) (by kernel_rfl) (fun _ _ _ h => h) (by kernel_rfl) ?_ ?_
            · intro w'
              first | (go_simp; done) | (go_simp; with_reducible rfl)
            refine wpAnyG_pureW (i := 21) (v := .bool true) rfl (by kernel_rfl) (by kernel_rfl) (by kernel_rfl) (fun _ _ _ h => h) (by kernel_rfl) ?_ ?_
            · intro w'
              first | (go_simp; done) | (go_simp; with_reducible rfl)
            refine wpAnyG_takeW (i := 22) (v := ?_) rfl (by kernel_rfl) (by kernel_rfl) (by kernel_rfl) (by kernel_rfl) (fun _ _ _ h => h) hS (by kernel_rfl) ?_ ?_
            rotate_left
            · intro w' hSw
              (try dsimp only at hSw)
              first | (go_simp; done) | (go_simp; with_reducible rfl)
            refine wpAnyG_pureW (i := 23) (v := ?_) rfl (by kernel_rfl) (by kernel_rfl) (by kernel_rfl) (fun _ _ _ h => h) (by kernel_rfl) ?_ ?_
            rotate_left
            · intro w'
              first | (go_simp; done) | (go_simp; with_reducible rfl)
            refine wpAnyG_takeW (i := 25) (v := ?_) rfl (by kernel_rfl) (by kernel_rfl) (by kernel_rfl) (by kernel_rfl) (fun _ _ _ h => h) hS (by kernel_rfl) ?_ ?_
            rotate_left
            · intro w' hSw
              (try dsimp only at hSw)
              first | (go_simp; done) | (go_simp; with_reducible rfl)
            refine wpAnyG_takeW (i := 26) (v := ?_) rfl (by kernel_rfl) (by kernel_rfl) (by kernel_rfl) (by kernel_rfl) (fun _ _ _ h => h) hS (by kernel_rfl) ?_ ?_
            rotate_left
            · intro w' hSw
              (try dsimp only at hSw)
              first | (go_simp; done) | (go_simp; with_reducible rfl)
            refine wpAnyG_oneW (i := 24) (by kernel_rfl) rfl (by kernel_rfl) (fun K hK => ?_)
            go_simp
            go_at_call 31
            refine (HA1.out V2 HBV2.out).mono ?_
            rintro e V3 ⟨rfl, hb⟩
            have HBV3 := Lib.hid (bst HBV2.out hb)
            clear hb
            go_wp2_with fail
            refine hK.out _ _ (fun _ _ => HCE.out V3 HBV3.out) ?_
            clear hK K hS
            have hS : (fun V : World => V.cell? ⟨X, 0, none⟩ = some (.pointer (some ⟨F, 0, none⟩)) ∧ V.cell? ⟨Y, 0, none⟩ = some (.int .i64 (j : Int)) ∧ V.cell? ⟨F, 0, none⟩ = some (.slice (some ⟨b, o, none⟩) n c) ∧ V.cell? ⟨b, o + i * 6 + 1, none⟩ = some (.string x.name)) V3 := HCE.out V3 HBV3.out
            refine wpAnyG_oneW (i := 27) (by kernel_rfl) rfl (by kernel_rfl) (fun K hK => ?_)
            go_simp
            go_at_call 31
            refine (HA2.out V3 HBV3.out).mono ?_
            rintro e V4 ⟨rfl, hb⟩
            have HBV4 := Lib.hid (bst HBV3.out hb)
            clear hb
            go_wp2_with fail
            refine hK.out _ _ (fun _ _ => HCE.out V4 HBV4.out) ?_
            clear hK K hS
            have hS : (fun V : World => V.cell? ⟨X, 0, none⟩ = some (.pointer (some ⟨F, 0, none⟩)) ∧ V.cell? ⟨Y, 0, none⟩ = some (.int .i64 (j : Int)) ∧ V.cell? ⟨F, 0, none⟩ = some (.slice (some ⟨b, o, none⟩) n c) ∧ V.cell? ⟨b, o + i * 6 + 1, none⟩ = some (.string x.name)) V4 := HCE.out V4 HBV4.out
            refine wpAnyG_pureW (i := 28) (v := .bool true) rfl (by kernel_rfl) (by kernel_rfl) (by kernel_rfl) (fun _ _ _ h => h) (by kernel_rfl) ?_ ?_
            · intro w'
              first | (go_simp; done) | (go_simp; with_reducible rfl)
            refine wpAnyG_pureW (i := 29) (v := .bool true) rfl (by kernel_rfl) (by kernel_rfl) (by kernel_rfl) (fun _ _ _ h => h) (by kernel_rfl) ?_ ?_
            · intro w'
              first | (go_simp; done) | (go_simp; with_reducible rfl)
            refine wpAnyG_pureW (i := 30) (v := .bool true) rfl (by kernel_rfl) (by kernel_rfl) (by kernel_rfl) (fun _ _ _ h => h) (by kernel_rfl) ?_ ?_
            · intro w'
              first | (go_simp; done) | (go_simp; with_reducible rfl)
            refine wpAnyG_takeW (i := 31) (v := ?_) rfl (by kernel_rfl) (by kernel_rfl) (by kernel_rfl) (by kernel_rfl) (fun _ _ _ h => h) hS (by kernel_rfl) ?_ ?_
            rotate_left
            · intro w' hSw
              (try dsimp only at hSw)
              first | (go_simp; done) | (go_simp; with_reducible rfl)
            refine wpAnyG_pureW (i := 32) (v := ?_) rfl (by kernel_rfl) (by kernel_rfl) (by kernel_rfl) (fun _ _ _ h => h) (by kernel_rfl) ?_ ?_
            rotate_left
            · intro w'
              first | (go_simp; done) | (go_simp; with_reducible rfl)
            refine wpAnyG_takeW (i := 34) (v := ?_) rfl (by kernel_rfl) (by kernel_rfl) (by kernel_rfl) (by kernel_rfl) (fun _ _ _ h => h) hS (by kernel_rfl) ?_ ?_
            rotate_left
            · intro w' hSw
              (try dsimp only at hSw)
              first | (go_simp; done) | (go_simp; with_reducible rfl)
            refine wpAnyG_takeW (i := 35) (v := ?_) rfl (by kernel_rfl) (by kernel_rfl) (by kernel_rfl) (by kernel_rfl) (fun _ _ _ h => h) hS (by kernel_rfl) ?_ ?_
            rotate_left
            · intro w' hSw
              (try dsimp only at hSw)
              first | (go_simp; done) | (go_simp; with_reducible rfl)
            refine wpAnyG_oneW (i := 33) (by kernel_rfl) rfl (by kernel_rfl) (fun K hK => ?_)
            go_simp
            go_at_call 28
            refine (HO1.out V4 HBV4.out).mono ?_
            rintro e V5 ⟨rfl, hb⟩
            have HBV5 := Lib.hid (bst HBV4.out hb)
            clear hb
            go_wp2_with fail
            refine hK.out _ _ (fun _ _ => HCE.out V5 HBV5.out) ?_
            clear hK K hS
            have hS : (fun V : World => V.cell? ⟨X, 0, none⟩ = some (.pointer (some ⟨F, 0, none⟩)) ∧ V.cell? ⟨Y, 0, none⟩ = some (.int .i64 (j : Int)) ∧ V.cell? ⟨F, 0, none⟩ = some (.slice (some ⟨b, o, none⟩) n c) ∧ V.cell? ⟨b, o + i * 6 + 1, none⟩ = some (.string x.name)) V5 := HCE.out V5 HBV5.out
            refine wpAnyG_oneW (i := 36) (by kernel_rfl) rfl (by kernel_rfl) (fun K hK => ?_)
            go_simp
            go_at_call 28
            refine (HO2.out V5 HBV5.out).mono ?_
            rintro e V6 ⟨rfl, hb⟩
            have HBV6 := Lib.hid (bst HBV5.out hb)
            clear hb
            go_wp2_with fail
            refine hK.out _ _ (fun _ _ => HCE.out V6 HBV6.out) ?_
            clear hK K hS
            refine wpAnyG_pureW (i := 37) (v := .bool false) rfl (by kernel_rfl) (by kernel_rfl) (by kernel_rfl) (fun _ _ _ h => h) (by kernel_rfl) ?_ ?_
            · intro w'
              first | (go_simp; done) | (go_simp; with_reducible rfl)
            refine wpAnyG_pureW (i := 38) (v := .bool false) rfl (by kernel_rfl) (by kernel_rfl) (by kernel_rfl) (fun _ _ _ h => h) (by kernel_rfl) ?_ ?_
            · intro w'
              first | (go_simp; done) | (go_simp; with_reducible rfl)
            refine wpAnyG_pureW (i := 39) (v := ?_) rfl (by kernel_rfl) (by kernel_rfl) (by kernel_rfl) (fun _ _ _ h => h) (by kernel_rfl) ?_ ?_
            rotate_left
            · intro w'
              first | (go_simp; done) | (go_simp; with_reducible rfl)
            refine wpAnyG_done (by kernel_rfl) ?_ _
            go_simp
            go_wp2_with fail
            go_ret
            exact ⟨by rw [HV.out]; rfl, HBV6.out⟩
          | true =>
            rw [h5] at HR0
            have HV := Lib.hid (show sameF l ord j i = true from HR0.out)
            refine wp_region_G (S := fun V : World => V.cell? ⟨X, 0, none⟩ = some (.pointer (some ⟨F, 0, none⟩)) ∧ V.cell? ⟨Y, 0, none⟩ = some (.int .i64 (j : Int)) ∧ V.cell? ⟨F, 0, none⟩ = some (.slice (some ⟨b, o, none⟩) n c) ∧ V.cell? ⟨b, o + i * 6 + 1, none⟩ = some (.string x.name)) (T := []) (by kernel_rfl) ?_
            have hS : (fun V : World => V.cell? ⟨X, 0, none⟩ = some (.pointer (some ⟨F, 0, none⟩)) ∧ V.cell? ⟨Y, 0, none⟩ = some (.int .i64 (j : Int)) ∧ V.cell? ⟨F, 0, none⟩ = some (.slice (some ⟨b, o, none⟩) n c) ∧ V.cell? ⟨b, o + i * 6 + 1, none⟩ = some (.string x.name)) w.drew := HCE.out w.drew HD.out
            refine wpAnyG_takeW (i := 0) (v := ?_) rfl (by kernel_rfl) (by kernel_rfl) (by kernel_rfl) (by kernel_rfl) (fun _ _ _ h => h) hS (by kernel_rfl) ?_ ?_
            rotate_left
            · intro w' hSw
              (try dsimp only at hSw)
              first | (go_simp; done) | (go_simp; with_reducible rfl)
            refine wpAnyG_pureW (i := 1) (v := ?_) rfl (by kernel_rfl) (by kernel_rfl) (by kernel_rfl) (fun _ _ _ h => h) (by kernel_rfl) ?_ ?_
            rotate_left
            · intro w'
              first | (go_simp; done) | (go_simp; with_reducible rfl)
            refine wpAnyG_pureW (i := 2) (v := ?_) rfl (by kernel_rfl) (by kernel_rfl) (by kernel_rfl) (fun _ _ _ h => h) (by kernel_rfl) ?_ ?_
            rotate_left
            · intro w'
              first | (go_simp; done) | (go_simp; with_reducible rfl)
            refine wpAnyG_pureW (i := 3) (v := ?_) rfl (by kernel_rfl) (by kernel_rfl) (by kernel_rfl) (fun _ _ _ h => h) (by kernel_rfl) ?_ ?_
            rotate_left
            · intro w'
              first | (go_simp; done) | (go_simp; with_reducible rfl)
            refine wpAnyG_takeW (i := 4) (v := ?_) rfl (by kernel_rfl) (by kernel_rfl) (by kernel_rfl) (by kernel_rfl) (fun _ _ _ h => h) hS (by kernel_rfl) ?_ ?_
            rotate_left
            · intro w' hSw
              (try dsimp only at hSw)
              first | (go_simp; done) | (go_simp; with_reducible rfl)
            refine wpAnyG_pureW (i := 5) (v := ?_) rfl (by kernel_rfl) (by kernel_rfl) (by kernel_rfl) (fun _ _ _ h => h) (by kernel_rfl) ?_ ?_
            rotate_left
            · intro w'
              first | (go_simp; done) | (go_simp; with_reducible rfl)
            refine wpAnyG_pureW (i := 6) (v := ?_) rfl (by kernel_rfl) (by kernel_rfl) (by kernel_rfl) (fun _ _ _ h => h) (by kernel_rfl) ?_ ?_
            rotate_left
            · intro w'
              first | (go_simp; done) | (go_simp; with_reducible rfl)
            refine wpAnyG_pureW (i := 7) (v := ?_) rfl (by kernel_rfl) (by kernel_rfl) (by kernel_rfl) (fun _ _ _ h => h) (by kernel_rfl) ?_ ?_
            rotate_left
            · intro w'
              first | (go_simp; done) | (go_simp; with_reducible rfl)
            refine wpAnyG_takeW (i := 8) (v := ?_) rfl (by kernel_rfl) (by kernel_rfl) (by kernel_rfl) (by kernel_rfl) (fun _ _ _ h => h) hS (by kernel_rfl) ?_ ?_
            rotate_left
            · intro w' hSw
              (try dsimp only at hSw)
              first | (go_simp; done) | (go_simp; with_reducible rfl)
            refine wpAnyG_pureW (i := 9) (v := .bool true) rfl (by kernel_rfl) (by kernel_rfl) (by kernel_rfl) (fun _ _ _ h => h) (by kernel_rfl) ?_ ?_
            · intro w'
              first | (go_simp; done) | (go_simp; with_reducible rfl)
            refine wpAnyG_pureW (i := 10) (v := .bool true) rfl (by kernel_rfl) (by kernel_rfl) (by kernel_rfl) (fun _ _ _ h => h) (by kernel_rfl) ?_ ?_
            · intro w'
              first | (go_simp; done) | (go_simp; with_reducible rfl)
            refine wpAnyG_takeW (i := 11) (v := ?_) rfl (by kernel_rfl) (by kernel_rfl) (by kernel_rfl) (by kernel_rfl) (fun _ _ _ h => h) hS (by kernel_rfl) ?_ ?_
            rotate_left
            · intro w' hSw
              (try dsimp only at hSw)
              first | (go_simp; done) | (go_simp; with_reducible rfl)
            refine wpAnyG_pureW (i := 12) (v := ?_) rfl (by kernel_rfl) (by kernel_rfl) (by kernel_rfl) (fun _ _ _ h => h) (by kernel_rfl) ?_ ?_
            rotate_left
            · intro w'
              first | (go_simp; done) | (go_simp; with_reducible rfl)
            refine wpAnyG_oneW (i := 13) (by kernel_rfl) rfl (by kernel_rfl) (fun K hK => ?_)
            go_simp
            go_at_call 30
            refine (HKD.out w.drew HD.out).mono ?_
            rintro e V1 ⟨rfl, hb⟩
            have HBV1 := Lib.hid (bst HD.out hb)
            clear hb
            go_wp2_with fail
            refine hK.out _ _ (fun _ _ => HCE.out V1 HBV1.out) ?_
            clear hK K hS
            have hS : (fun V : World => V.cell? ⟨X, 0, none⟩ = some (.pointer (some ⟨F, 0, none⟩)) ∧ V.cell? ⟨Y, 0, none⟩ = some (.int .i64 (j : Int)) ∧ V.cell? ⟨F, 0, none⟩ = some (.slice (some ⟨b, o, none⟩) n c) ∧ V.cell? ⟨b, o + i * 6 + 1, none⟩ = some (.string x.name)) V1 := HCE.out V1 HBV1.out
            refine wpAnyG_pureW (i := 14) (v := .bool true) rfl (by kernel_rfl) (by kernel_rfl) (by kernel_rfl) (fun _ _ _ h => h) (by kernel_rfl) ?_ ?_
            · intro w'
              first | (go_simp; done) | (go_simp; with_reducible rfl)
            refine wpAnyG_pureW (i := 15) (v := .bool true) rfl (by kernel_rfl) (by kernel_rfl) (by kernel_rfl) (fun _ _ _ h => h) (by kernel_rfl) ?_ ?_
            · intro w'
              first | (go_simp; done) | (go_simp; with_reducible rfl)
            refine wpAnyG_pureW (i := 16) (v := .bool true) rfl (by kernel_rfl) (by kernel_rfl) (by kernel_rfl) (fun _ _ _ h => h) (by kernel_rfl) ?_ ?_
            · intro w'
              first | (go_simp; done) | (go_simp; with_reducible rfl)
            refine wpAnyG_takeW (i := 17) (v := ?_) rfl (by kernel_rfl) (by kernel_rfl) (by kernel_rfl) (by kernel_rfl) (fun _ _ _ h => h) hS (by kernel_rfl) ?_ ?_
            rotate_left
            · intro w' hSw
              (try dsimp only at hSw)
              first | (go_simp; done) | (go_simp; with_reducible rfl)
            refine wpAnyG_pureW (i := 18) (v := ?_) rfl (by kernel_rfl) (by kernel_rfl) (by kernel_rfl) (fun _ _ _ h => h) (by kernel_rfl) ?_ ?_
            rotate_left
            · intro w'
              first | (go_simp; done) | (go_simp; with_reducible rfl)
            refine wpAnyG_oneW (i := 19) (by kernel_rfl) rfl (by kernel_rfl) (fun K hK => ?_)
            go_simp
            go_at_call 61
            refine (HCK.out V1 HBV1.out).mono ?_
            rintro e V2 ⟨rfl, hb⟩
            have HBV2 := Lib.hid (bst HBV1.out hb)
            clear hb
            go_wp2_with fail
            refine hK.out _ _ (fun _ _ => HCE.out V2 HBV2.out) ?_
            clear hK K hS
            have hS : (fun V : World => V.cell? ⟨X, 0, none⟩ = some (.pointer (some ⟨F, 0, none⟩)) ∧ V.cell? ⟨Y, 0, none⟩ = some (.int .i64 (j : Int)) ∧ V.cell? ⟨F, 0, none⟩ = some (.slice (some ⟨b, o, none⟩) n c) ∧ V.cell? ⟨b, o + i * 6 + 1, none⟩ = some (.string x.name)) V2 := HCE.out V2 HBV2.out
            refine wpAnyG_pureW (i := 20) (v := .bool true) rfl (by kernel_rfl) (by kernel_rfl) (by kernel_rfl) (fun _ _ _ h => h) (by kernel_rfl) ?_ ?_
            · intro w'
              first | (go_simp; done) | (go_simp; with_reducible rfl)
            refine wpAnyG_pureW (i := 21) (v := .bool true) rfl (by kernel_rfl) (by kernel_rfl) (by kernel_rfl) (fun _ _ _ h => h) (by kernel_rfl) ?_ ?_
            · intro w'
              first | (go_simp; done) | (go_simp; with_reducible rfl)
            refine wpAnyG_takeW (i := 22) (v := ?_) rfl (by kernel_rfl) (by kernel_rfl) (by kernel_rfl) (by kernel_rfl) (fun _ _ _ h => h) hS (by kernel_rfl) ?_ ?_
            rotate_left
            · intro w' hSw
              (try dsimp only at hSw)
              first | (go_simp; done) | (go_simp; with_reducible rfl)
            refine wpAnyG_pureW (i := 23) (v := ?_) rfl (by kernel_rfl) (by kernel_rfl) (by kernel_rfl) (fun _ _ _ h => h) (by kernel_rfl) ?_ ?_
            rotate_left
            · intro w'
              first | (go_simp; done) | (go_simp; with_reducible rfl)
            refine wpAnyG_takeW (i := 25) (v := ?_) rfl (by kernel_rfl) (by kernel_rfl) (by kernel_rfl) (by kernel_rfl) (fun _ _ _ h => h) hS (by kernel_rfl) ?_ ?_
            rotate_left
            · intro w' hSw
              (try dsimp only at hSw)
              first | (go_simp; done) | (go_simp; with_reducible rfl)
            refine wpAnyG_takeW (i := 26) (v := ?_) rfl (by kernel_rfl) (by kernel_rfl) (by kernel_rfl) (by kernel_rfl) (fun _ _ _ h => h) hS (by kernel_rfl) ?_ ?_
            rotate_left
            · intro w' hSw
              (try dsimp only at hSw)
              first | (go_simp; done) | (go_simp; with_reducible rfl)
            refine wpAnyG_oneW (i := 24) (by kernel_rfl) rfl (by kernel_rfl) (fun K hK => ?_)
            go_simp
            go_at_call 31
            refine (HA1.out V2 HBV2.out).mono ?_
            rintro e V3 ⟨rfl, hb⟩
            have HBV3 := Lib.hid (bst HBV2.out hb)
            clear hb
            go_wp2_with fail
            refine hK.out _ _ (fun _ _ => HCE.out V3 HBV3.out) ?_
            clear hK K hS
            have hS : (fun V : World => V.cell? ⟨X, 0, none⟩ = some (.pointer (some ⟨F, 0, none⟩)) ∧ V.cell? ⟨Y, 0, none⟩ = some (.int .i64 (j : Int)) ∧ V.cell? ⟨F, 0, none⟩ = some (.slice (some ⟨b, o, none⟩) n c) ∧ V.cell? ⟨b, o + i * 6 + 1, none⟩ = some (.string x.name)) V3 := HCE.out V3 HBV3.out
            refine wpAnyG_oneW (i := 27) (by kernel_rfl) rfl (by kernel_rfl) (fun K hK => ?_)
            go_simp
            go_at_call 31
            refine (HA2.out V3 HBV3.out).mono ?_
            rintro e V4 ⟨rfl, hb⟩
            have HBV4 := Lib.hid (bst HBV3.out hb)
            clear hb
            go_wp2_with fail
            refine hK.out _ _ (fun _ _ => HCE.out V4 HBV4.out) ?_
            clear hK K hS
            have hS : (fun V : World => V.cell? ⟨X, 0, none⟩ = some (.pointer (some ⟨F, 0, none⟩)) ∧ V.cell? ⟨Y, 0, none⟩ = some (.int .i64 (j : Int)) ∧ V.cell? ⟨F, 0, none⟩ = some (.slice (some ⟨b, o, none⟩) n c) ∧ V.cell? ⟨b, o + i * 6 + 1, none⟩ = some (.string x.name)) V4 := HCE.out V4 HBV4.out
            refine wpAnyG_pureW (i := 28) (v := .bool true) rfl (by kernel_rfl) (by kernel_rfl) (by kernel_rfl) (fun _ _ _ h => h) (by kernel_rfl) ?_ ?_
            · intro w'
              first | (go_simp; done) | (go_simp; with_reducible rfl)
            refine wpAnyG_pureW (i := 29) (v := .bool true) rfl (by kernel_rfl) (by kernel_rfl) (by kernel_rfl) (fun _ _ _ h => h) (by kernel_rfl) ?_ ?_
            · intro w'
              first | (go_simp; done) | (go_simp; with_reducible rfl)
            refine wpAnyG_pureW (i := 30) (v := .bool true) rfl (by kernel_rfl) (by kernel_rfl) (by kernel_rfl) (fun _ _ _ h => h) (by kernel_rfl) ?_ ?_
            · intro w'
              first | (go_simp; done) | (go_simp; with_reducible rfl)
            refine wpAnyG_takeW (i := 31) (v := ?_) rfl (by kernel_rfl) (by kernel_rfl) (by kernel_rfl) (by kernel_rfl) (fun _ _ _ h => h) hS (by kernel_rfl) ?_ ?_
            rotate_left
            · intro w' hSw
              (try dsimp only at hSw)
              first | (go_simp; done) | (go_simp; with_reducible rfl)
            refine wpAnyG_pureW (i := 32) (v := ?_) rfl (by kernel_rfl) (by kernel_rfl) (by kernel_rfl) (fun _ _ _ h => h) (by kernel_rfl) ?_ ?_
            rotate_left
            · intro w'
              first | (go_simp; done) | (go_simp; with_reducible rfl)
            refine wpAnyG_takeW (i := 34) (v := ?_) rfl (by kernel_rfl) (by kernel_rfl) (by kernel_rfl) (by kernel_rfl) (fun _ _ _ h => h) hS (by kernel_rfl) ?_ ?_
            rotate_left
            · intro w' hSw
              (try dsimp only at hSw)
              first | (go_simp; done) | (go_simp; with_reducible rfl)
            refine wpAnyG_takeW (i := 35) (v := ?_) rfl (by kernel_rfl) (by kernel_rfl) (by kernel_rfl) (by kernel_rfl) (fun _ _ _ h => h) hS (by kernel_rfl) ?_ ?_
            rotate_left
            · intro w' hSw
              (try dsimp only at hSw)
              first | (go_simp; done) | (go_simp; with_reducible rfl)
            refine wpAnyG_oneW (i := 33) (by kernel_rfl) rfl (by kernel_rfl) (fun K hK => ?_)
            go_simp
            go_at_call 28
            refine (HO1.out V4 HBV4.out).mono ?_
            rintro e V5 ⟨rfl, hb⟩
            have HBV5 := Lib.hid (bst HBV4.out hb)
            clear hb
            go_wp2_with fail
            refine hK.out _ _ (fun _ _ => HCE.out V5 HBV5.out) ?_
            clear hK K hS
            have hS : (fun V : World => V.cell? ⟨X, 0, none⟩ = some (.pointer (some ⟨F, 0, none⟩)) ∧ V.cell? ⟨Y, 0, none⟩ = some (.int .i64 (j : Int)) ∧ V.cell? ⟨F, 0, none⟩ = some (.slice (some ⟨b, o, none⟩) n c) ∧ V.cell? ⟨b, o + i * 6 + 1, none⟩ = some (.string x.name)) V5 := HCE.out V5 HBV5.out
            refine wpAnyG_oneW (i := 36) (by kernel_rfl) rfl (by kernel_rfl) (fun K hK => ?_)
            go_simp
            go_at_call 28
            refine (HO2.out V5 HBV5.out).mono ?_
            rintro e V6 ⟨rfl, hb⟩
            have HBV6 := Lib.hid (bst HBV5.out hb)
            clear hb
            go_wp2_with fail
            refine hK.out _ _ (fun _ _ => HCE.out V6 HBV6.out) ?_
            clear hK K hS
            refine wpAnyG_pureW (i := 37) (v := .bool true) rfl (by kernel_rfl) (by kernel_rfl) (by kernel_rfl) (fun _ _ _ h => h) (by kernel_rfl) ?_ ?_
            · intro w'
              first | (go_simp; done) | (go_simp; with_reducible rfl)
            refine wpAnyG_pureW (i := 38) (v := .bool true) rfl (by kernel_rfl) (by kernel_rfl) (by kernel_rfl) (fun _ _ _ h => h) (by kernel_rfl) ?_ ?_
            · intro w'
              first | (go_simp; done) | (go_simp; with_reducible rfl)
            refine wpAnyG_pureW (i := 39) (v := ?_) rfl (by kernel_rfl) (by kernel_rfl) (by kernel_rfl) (fun _ _ _ h => h) (by kernel_rfl) ?_ ?_
            rotate_left
            · intro w'
              first | (go_simp; done) | (go_simp; with_reducible rfl)
            refine wpAnyG_done (by kernel_rfl) ?_ _
            go_simp
            go_wp2_with fail
            go_ret
            exact ⟨by rw [HV.out]; rfl, HBV6.out⟩
/-- slices.IndexFunc over whole numbers, as far as slices.ContainsFunc looks. -/
theorem anyRad_idx (X Y : Nat) (A : Option Addr) (n c : Nat) (xs : List Int) (p : Int → Bool) (w : World) (B : Nat) (hl : Sl (tInt .i64) w (lt B) A n c xs) (hB : B ≤ w.heap.size)
    (hp : ∀ W : World, Below w.heap.size w W → ∀ x ∈ xs, Calls Tryz.prog 73 #[.int .i64 x, .pointer (some ⟨X, 0, none⟩), .pointer (some ⟨Y, 0, none⟩)] W fun e W' => e = .returned (.bool (p x)) ∧ Below W.heap.size W W') :
    Calls Tryz.prog 117 #[.slice A n c, .func (.func 73) #[] #[.pointer (some ⟨X, 0, none⟩), .pointer (some ⟨Y, 0, none⟩)]] w fun e w' => ∃ r : Int, e = .returned (.int .i64 r) ∧ Below w.heap.size w w' ∧ decide (0 ≤ r) = xs.any p := by
  have hn1 := hl.small
  have HL := Lib.hid hl.hn
  go_enter Tryz.func117, Tryz.ntmps117
  go_wp2_with fail
  go_loopw [8] (fun i wr => ∃ k : Nat, k ≤ n ∧ i = .int .i64 (k : Int) ∧ Below w.heap.size w wr ∧ (xs.take k).any p = false) (fun i _ => n - (intOf i).toNat)
  case atStart => exact ⟨0, Nat.zero_le _, rfl, Below.refl _ _, by simp⟩
  case round =>
    obtain ⟨k, hk, rfl, hb, hany⟩ := hrel
    have HA := Lib.hid hany
    clear hany
    by_cases hlt : k < n
    · obtain ⟨x, hx⟩ : ∃ x, xs[k]? = some x := get_some (by have := HL.out; omega)
      have HX := Lib.hid hx
      have hmem : x ∈ xs := List.mem_of_getElem? hx
      obtain ⟨bq, oq, rfl, _, hc0, _⟩ := (hl.below hb hB).int hx
      have HCALL := Lib.hid (hp wr hb x hmem)
      clear hx
      have HTS := Lib.hid (take_snoc HX.out)
      cases hpx : p x with
      | true =>
        have HP := Lib.hid hpx
        clear hpx
        go_wp2_with (go_at_call 73; refine HCALL.out.mono ?_; rintro e w1 ⟨rfl, hb1⟩; rw [HP.out])
        have hb2 := Lib.hid (hb.trans (hb1.mono hb.size))
        clear hb hb1
        go_wp2_with fail
        go_ret
        exact ⟨k, rfl, hb2.out, by
          have h1 : xs.any p = true := List.any_eq_true.2 ⟨x, hmem, HP.out⟩
          rw [h1]; simp⟩
      | false =>
        have HP := Lib.hid hpx
        clear hpx
        go_wp2_with (go_at_call 73; refine HCALL.out.mono ?_; rintro e w1 ⟨rfl, hb1⟩; rw [HP.out])
        have hb2 := Lib.hid (hb.trans (hb1.mono hb.size))
        clear hb hb1
        go_wp2_with fail
        go_roundw
        case rel => exact ⟨k + 1, by omega, by go_num, hb2.out, by rw [HTS.out, List.any_append, HA.out]; simp [HP.out]⟩
        case measure => simp [intOf]; omega
    · go_wp2_with fail
      go_ret
      exact ⟨-1, rfl, hb, by
        have h1 : xs.take k = xs := List.take_of_length_le (by have := HL.out; omega)
        have h2 := HA.out
        rw [h1] at h2
        rw [h2]; rfl⟩
theorem anyRad (X Y : Nat) (A : Option Addr) (n c : Nat) (xs : List Int) (p : Int → Bool) (w : World) (B : Nat) (hl : Sl (tInt .i64) w (lt B) A n c xs) (hB : B ≤ w.heap.size)
    (hp : ∀ W : World, Below w.heap.size w W → ∀ x ∈ xs, Calls Tryz.prog 73 #[.int .i64 x, .pointer (some ⟨X, 0, none⟩), .pointer (some ⟨Y, 0, none⟩)] W fun e W' => e = .returned (.bool (p x)) ∧ Below W.heap.size W W') :
    Calls Tryz.prog 72 #[.slice A n c, .func (.func 73) #[] #[.pointer (some ⟨X, 0, none⟩), .pointer (some ⟨Y, 0, none⟩)]] w fun e w' => e = .returned (.bool (xs.any p)) ∧ Below w.heap.size w w' := by
  have HC := Lib.hid (anyRad_idx X Y A n c xs p w B hl hB hp)
  clear hp
  go_enter Tryz.func72, Tryz.ntmps72
  go_wp2_with fail
  refine HC.out.mono ?_
  rintro e w1 ⟨r, rfl, hb, hr⟩
  have HR := Lib.hid hr
  clear hr
  go_wp2_with fail
  go_ret
  exact ⟨retB HR.out, hb⟩
set_option maxRecDepth 100000 in
set_option maxHeartbeats 8000000 in
theorem miss_f (T : Tree l) (G : Good l) (h : Fm w B F A n c q O m k l ord) (hK : Known l ord) {i : Nat} (hi : i < l.length) :
    Calls Tryz.prog 35 #[.pointer (some ⟨F, 0, none⟩), .int .i64 (i : Int)] w fun e w' => e = .returned (.bool (missF l ord i)) ∧ Below w.heap.size w w' := by
  obtain ⟨wa, hwa⟩ : ∃ wa, wa = w.alloc (.cells #[.pointer (some ⟨F, 0, none⟩)] 68) := ⟨_, rfl⟩
  obtain ⟨w0, hw0⟩ : ∃ w0, w0 = wa.alloc (.cells #[.int .i64 (i : Int)] 3) := ⟨_, rfl⟩
  have za : wa.heap.size = w.heap.size + 1 := by rw [hwa]; exact World.size_alloc w _
  have hx2 : w0.heap[w.heap.size]? = some (.cells #[.pointer (some ⟨F, 0, none⟩)] 68 (0, 0)) := by rw [hw0, Lib.alloc_old _ _ _ (by omega), hwa]; exact heap_alloc_new w _
  have hx3 : w0.heap[w.heap.size + 1]? = some (.cells #[.int .i64 (i : Int)] 3 (0, 0)) := by rw [hw0, ← za]; exact heap_alloc_new wa _
  have hb0 : Below w.heap.size w w0 := by rw [hw0, hwa]; exact balloc (balloc (Below.refl _ _) _) _
  have HB0 := Lib.hid hb0
  have h0 := h.below hb0
  have HX : Hid (∀ V, Below w0.heap.size w0 V → V.cell? ⟨w.heap.size, 0, none⟩ = some (.pointer (some ⟨F, 0, none⟩)) ∧ V.cell? ⟨w.heap.size + 1, 0, none⟩ = some (.int .i64 (i : Int)) ∧ V.cell? ⟨F, 2, none⟩ = some (.slice O m k)) := fun V hV => ⟨cell_be (cell_blk (i := 0) hx2 rfl) hV, cell_be (cell_blk (i := 0) hx3 rfl) hV, cell_be h0.c2 hV⟩
  have HKD := Lib.hid (fun V (hV : Below w0.heap.size w0 V) => kind_f G (h0.below hV) hi)
  have HRQ := Lib.hid (fun V (hV : Below w0.heap.size w0 V) => has_f (h0.below hV) hi (⟨#[114, 101, 113, 117, 105, 114, 101, 100]⟩ : ByteArray))
  have HCK := Lib.hid (fun V (hV : Below w0.heap.size w0 V) => has_f (h0.below hV) hi (⟨#[99, 104, 101, 99, 107, 101, 100]⟩ : ByteArray))
  have HVL := Lib.hid (fun V (hV : Below w0.heap.size w0 V) => value_f T G (h0.below hV) hi)
  have HAN := Lib.hid (fun V (hV : Below w0.heap.size w0 V) => anyRad w.heap.size (w.heap.size + 1) O m k ord (sameF l ord i) V B ((h0.below hV).ord) ((h0.below hV).le) (fun U hU x hx => by
    obtain ⟨y, rfl, hy⟩ := hK x hx
    have hb : Below w0.heap.size w0 U := bst hV hU
    exact miss1_f T G (h0.below hb) hK hy hi ((hb.block _ (Array.getElem?_eq_some_iff.1 hx2).1).trans hx2) ((hb.block _ (Array.getElem?_eq_some_iff.1 hx3).1).trans hx3)))
  have HR0 := Lib.hid (show missF l ord i = (hasF l i (⟨#[114, 101, 113, 117, 105, 114, 101, 100]⟩ : ByteArray) && (if tickF (kindF l i) then !hasF l i (⟨#[99, 104, 101, 99, 107, 101, 100]⟩ : ByteArray) && ((kindF l i).toList == ([99, 104, 101, 99, 107, 98, 111, 120] : List UInt8) || !ord.any (sameF l ord i)) else decide ((valueF l i).size = 0))) from rfl)
  clear za hx2 hx3 hb0 h h0 hi T G hK
  generalize ord.any (sameF l ord (i : Int)) = an at *
  generalize kindF l (i : Int) = kd at *
  generalize hasF l (i : Int) (⟨#[114, 101, 113, 117, 105, 114, 101, 100]⟩ : ByteArray) = rq at *
  generalize hasF l (i : Int) (⟨#[99, 104, 101, 99, 107, 101, 100]⟩ : ByteArray) = ck at *
  generalize valueF l (i : Int) = vl at *
  go_enter Tryz.func35, Tryz.ntmps35
  go_upto_region 1 with fail
  rw [← hwa, ← hw0]
  clear hwa hw0
  have x0 := HX.out w0 (Below.refl _ _)
  go_upto_region 2 with (go_at_call 30; refine (HKD.out w0 (Below.refl _ _)).mono ?_; rintro e w1 ⟨rfl, hb1⟩; have x1 := HX.out w1 hb1; have HB1 := Lib.hid hb1; clear hb1 x0)
  cases rq with
  | false =>
    have HR := Lib.hid (show missF l ord i = false from HR0.out)
    go_wp2_with (go_at_call 61; refine (HRQ.out w1 HB1.out).mono ?_; rintro e w2 ⟨rfl, hb2⟩)
    go_ret
    exact ⟨by rw [HR.out]; rfl, bst HB0.out (bst HB1.out hb2)⟩
  | true =>
    go_upto_region 4 with (go_at_call 61; refine (HRQ.out w1 HB1.out).mono ?_; rintro e w2 ⟨rfl, hb2⟩; have x2 := HX.out w2 (bst HB1.out hb2); have HB2 := Lib.hid (bst HB1.out hb2); clear hb2 x1)
    have HTK := Lib.hid (ticked_f kd w2)
    cases ht : tickF kd with
    | false =>
      have HR := Lib.hid (show missF l ord i = decide (vl.size = 0) from by rw [HR0.out, ht]; rfl)
      rw [ht] at HTK
      clear HR0 ht
      by_cases hz : vl.size = 0
      · have e0 := estr_yes hz
        have HR2 := Lib.hid (show missF l ord i = true from by rw [HR.out]; exact decide_eq_true hz)
        go_wp2_with (first | (go_at_call 65; refine HTK.out.mono ?_; rintro e w3 ⟨rfl, rfl⟩) | (go_at_call 34; refine (HVL.out _ HB2.out).mono ?_; rintro e w4 ⟨rfl, hb4⟩))
        go_ret
        exact ⟨by rw [HR2.out]; rfl, bst HB0.out (bst HB2.out hb4)⟩
      · have e0 := estr_no (s := vl) (by omega)
        have HR2 := Lib.hid (show missF l ord i = false from by rw [HR.out]; exact decide_eq_false hz)
        go_wp2_with (first | (go_at_call 65; refine HTK.out.mono ?_; rintro e w3 ⟨rfl, rfl⟩) | (go_at_call 34; refine (HVL.out _ HB2.out).mono ?_; rintro e w4 ⟨rfl, hb4⟩))
        go_ret
        exact ⟨by rw [HR2.out]; rfl, bst HB0.out (bst HB2.out hb4)⟩
    | true =>
      have HR1 := Lib.hid (show missF l ord i = (!ck && (kd.toList == ([99, 104, 101, 99, 107, 98, 111, 120] : List UInt8) || !an)) from by rw [HR0.out, ht]; rfl)
      rw [ht] at HTK
      clear HR0 ht HVL
      cases ck with
      | true =>
        have HR := Lib.hid (show missF l ord i = false from HR1.out)
        go_wp2_with (first | (go_at_call 65; refine HTK.out.mono ?_; rintro e w3 ⟨rfl, rfl⟩) | (go_at_call 61; refine (HCK.out _ HB2.out).mono ?_; rintro e w4 ⟨rfl, hb4⟩))
        go_ret
        exact ⟨by rw [HR.out]; rfl, bst HB0.out (bst HB2.out hb4)⟩
      | false =>
        go_upto_region 6 with (go_at_call 65; refine HTK.out.mono ?_; rintro e w3 ⟨rfl, rfl⟩)
        cases hb : (kd.toList == ([99, 104, 101, 99, 107, 98, 111, 120] : List UInt8)) with
        | true =>
          have HR := Lib.hid (show missF l ord i = true from by rw [HR1.out, hb]; rfl)
          go_wp2_with (go_at_call 61; refine (HCK.out _ HB2.out).mono ?_; rintro e w4 ⟨rfl, hb4⟩)
          go_ret
          exact ⟨by rw [HR.out]; rfl, bst HB0.out (bst HB2.out hb4)⟩
        | false =>
          have HR := Lib.hid (show missF l ord i = !an from by rw [HR1.out, hb]; rfl)
          go_wp2_with (first | (go_at_call 61; refine (HCK.out _ HB2.out).mono ?_; rintro e w4 ⟨rfl, hb4⟩; have x4 := HX.out w4 (bst HB2.out hb4); have HB4 := Lib.hid (bst HB2.out hb4); clear hb4 x2) | (go_at_call 72; refine (HAN.out _ HB4.out).mono ?_; rintro e w5 ⟨rfl, hb5⟩))
          go_ret
          exact ⟨by rw [HR.out]; rfl, bst HB0.out (bst HB4.out hb5)⟩
end
end Go.Proofs.YtpbngckplbnahaaGreatDoor
