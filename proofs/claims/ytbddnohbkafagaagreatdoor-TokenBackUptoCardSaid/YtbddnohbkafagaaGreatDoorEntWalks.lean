/-
The walks of package entity: digit, sign, semicolon, word.
-/
import Derived.Test.YtbddnohbkafagaaGreatDoorChars
namespace Go.Proofs.YtbddnohbkafagaaGreatDoor
open Go.RowKit Go.Cl

/-- A byte with the bit 32. -/
def low (b : Int) : Int := bits BinOp.or IntKind.u8 b 32
/-- The number that a digit tells, or -1. -/
def digN (b base : Int) : Int :=
  let n := if 48 ≤ b ∧ b ≤ 57 then b - 48 else if 97 ≤ low b ∧ low b ≤ 102 then low b - 97 + 10 else -1
  if base ≤ n then -1 else n

theorem digit_any (b : UInt8) (base : Int) (w : World) :
    Calls Tryz.prog 100 #[.int .u8 b.toNat, .int .i64 base] w fun e w' => e = .returned (.int .i64 (digN b.toNat base)) ∧ w = w' := by
  go_enter Tryz.func100, Tryz.ntmps100
  go_wp2_with fail
  all_goals
    go_ret
    refine ⟨retI ?_, rfl⟩
    unfold digN low
    dsimp only
    generalize bits BinOp.or IntKind.u8 (b.toNat : Int) 32 = q at *
    repeat' split
    all_goals omega

/-- A sign by its number. -/
def signB (n : Int) : ByteArray := ⟨(Lib.encodeRune (if n = 0 ∨ n = 13 then 65533 else n)).toArray⟩

theorem sign_any (n : Int) (w : World) (h0 : 0 ≤ n) (h1 : n ≤ 2097152) :
    Calls Tryz.prog 101 #[.int .i64 n] w fun e w' => e = .returned (.string (signB n)) ∧ Below w.heap.size w w' := by
  have key : ∀ r : Int, 0 ≤ r → r ≤ 2097152 → signB n = ⟨(Lib.encodeRune r).toArray⟩ → Calls Tryz.prog 105 #[.slice (some ⟨w.heap.size, 0, none⟩) 1 1] (w.alloc (.cells #[.int .i32 r] 21)) fun e w' => e = .returned (.string (signB n)) ∧ Below w.heap.size w w' := by
    intro r hr0 hr1 hs
    have hwf : (Lit.int .i32 r).wf = true := by
      have h1 : IntKind.i32.min = -2147483648 := by decide
      have h2 : IntKind.i32.max = 2147483647 := by decide
      simp [Lit.wf, h1, h2]
      omega
    have hsl : Sl (tInt .i32) (w.alloc (.cells #[.int .i32 r] 21)) (lt (w.heap.size + 1)) (some ⟨w.heap.size, 0, none⟩) 1 1 [r] :=
      { hn := rfl, hc := Nat.le_refl _, hb := by decide, hm := by decide, nil_ := by simp, at_ := fun _ => ⟨w.heap.size, 0, [.int .i32 r], rfl, Nat.lt_succ_self _, ⟨[.int .i32 r], [], rfl, ⟨rfl, hwf⟩, rfl⟩, cell_new w [.int .i32 r] _⟩ }
    refine (encode_any _ 1 1 [r] _ _ hsl (by rw [World.size_alloc]; exact Nat.le_refl _)).mono ?_
    rintro e w1 ⟨rfl, hb⟩
    refine ⟨by rw [hs]; simp [encB], ((Below.refl _ w).alloc (Nat.le_refl _) _).trans (hb.mono (by rw [World.size_alloc]; omega))⟩
  by_cases hn : n = 0 ∨ n = 13
  · have HK := Lib.hid (key 65533 (by omega) (by omega) (by unfold signB; rw [if_pos hn]))
    have ht : (n == 0 || n == 13) = true := by simpa using hn
    clear key
    rcases hn with rfl | rfl
    · go_enter Tryz.func101, Tryz.ntmps101
      go_wp2_with fail
      refine HK.out.mono ?_
      rintro e w1 ⟨rfl, hb⟩
      go_wp2_with fail
      go_ret
      exact ⟨rfl, hb⟩
    · go_enter Tryz.func101, Tryz.ntmps101
      go_wp2_with fail
      refine HK.out.mono ?_
      rintro e w1 ⟨rfl, hb⟩
      go_wp2_with fail
      go_ret
      exact ⟨rfl, hb⟩
  · have HK := Lib.hid (key n (by omega) (by omega) (by unfold signB; rw [if_neg hn]))
    have ht0 : (n == 0) = false := by rw [beq_eq_false_iff_ne]; omega
    have ht1 : (n == 13) = false := by rw [beq_eq_false_iff_ne]; omega
    have hw : IntKind.i32.wrap n = n := IntWalk.i32_in _ (by omega)
    clear key hn
    go_enter Tryz.func101, Tryz.ntmps101
    go_wp2_with fail
    refine HK.out.mono ?_
    rintro e w1 ⟨rfl, hb⟩
    go_wp2_with fail
    go_ret
    exact ⟨rfl, hb⟩

/-- Behind a semicolon, if there is one. -/
def semiN (s : ByteArray) (n : Nat) : Nat := if s.data.toList[n]? = some 59 then n + 1 else n
theorem byte_at {s : ByteArray} {n : Nat} (h : n < s.size) : s.data.toList[n]? = some s[n] := by
  rw [List.getElem?_eq_getElem (by simpa using h)]; rfl

theorem semi_any (s : ByteArray) (n : Nat) (w : World) (hn : n ≤ 1152921504606846976) :
    Calls Tryz.prog 102 #[.string s, .int .i64 n] w fun e w' => e = .returned (.int .i64 (semiN s n)) ∧ w = w' := by
  by_cases h : n < s.size
  · by_cases hc : s[n] = 59
    · have HS := Lib.hid (show semiN s n = n + 1 from by unfold semiN; rw [byte_at h, hc, if_pos rfl])
      have ht : ((s[n].toNat : Int) == 59) = true := by rw [hc]; rfl
      clear hc
      go_enter Tryz.func102, Tryz.ntmps102
      go_wp2_with fail
      go_ret
      exact ⟨by rw [HS.out]; go_num, rfl⟩
    · have HS := Lib.hid (show semiN s n = n from by unfold semiN; rw [byte_at h, if_neg (by simpa using hc)])
      have ht : ((s[n].toNat : Int) == 59) = false := by
        rw [beq_eq_false_iff_ne]
        intro e
        exact hc (UInt8.toNat_inj.1 (by simpa using (by omega : s[n].toNat = 59)))
      clear hc
      go_enter Tryz.func102, Tryz.ntmps102
      go_wp2_with fail
      go_ret
      exact ⟨by rw [HS.out]; rfl, rfl⟩
  · have HS := Lib.hid (show semiN s n = n from by unfold semiN; rw [List.getElem?_eq_none (by simpa using h), if_neg (by simp)])
    go_enter Tryz.func102, Tryz.ntmps102
    go_wp2_with fail
    go_ret
    exact ⟨by rw [HS.out]; rfl, rfl⟩
/-- A letter, a digit or an equals sign? -/
def wordB (b : Int) : Bool := b == 61 || (decide (48 ≤ b) && decide (b ≤ 57)) || (decide (97 ≤ low b) && decide (low b ≤ 122))
theorem word_any (b : UInt8) (w : World) :
    Calls Tryz.prog 104 #[.int .u8 b.toNat] w fun e w' => e = .returned (.bool (wordB b.toNat)) ∧ w = w' := by
  go_enter Tryz.func104, Tryz.ntmps104
  go_wp2_with fail
  all_goals
    go_ret
    refine ⟨retB ?_, rfl⟩
    unfold wordB low
    generalize bits BinOp.or IntKind.u8 (b.toNat : Int) 32 = q at *
    rw [Bool.eq_iff_iff]
    simp only [Bool.or_eq_true, Bool.and_eq_true, decide_eq_true_eq, beq_iff_eq]
    first | omega | (simp_all; done) | (simp_all; omega)
end Go.Proofs.YtbddnohbkafagaaGreatDoor
