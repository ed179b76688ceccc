/-
Tokens: the walks of blank, letter, Raw and of the reader's small functions.
-/
import Derived.Test.YtbddnohbkafagaaGreatDoorTokLaw
import Derived.Test.YtbddnohbkafagaaGreatDoorRegionW
import Derived.Test.YtbddnohbkafagaaGreatDoorEdBase
import Derived.Test.YtbddnohbkafagaaGreatDoorRegionG
import Derived.Test.YtbddnohbkafagaaGreatDoorShelf
import Derived.Laws.IdiomStrings
namespace Go.Proofs.YtbddnohbkafagaaGreatDoor
open Go.RowKit Go.Cl
attribute [local go_sem ↓] Go.wp_at_zero Go.wp_at_succ
theorem u8_ne {b : UInt8} {c : Nat} (hc : c < 256) (h : b ≠ c.toUInt8) : ((b.toNat : Int) == (c : Int)) = false := beq_eq_false_iff_ne.2 fun e => h (UInt8.toNat_inj.1 (by simp; omega))
theorem blank_any (b : UInt8) (w : World) : Calls Tryz.prog 40 #[.int .u8 (b.toNat : Int)] w fun e w' => e = .returned (.bool (blankB b)) ∧ w' = w := by
  by_cases h32 : b = 32
  · subst h32
    go_enter Tryz.func40, Tryz.ntmps40
    go_wp2_with fail
    go_ret
    exact ⟨rfl, rfl⟩
  by_cases h9 : b = 9
  · subst h9
    go_enter Tryz.func40, Tryz.ntmps40
    go_wp2_with fail
    go_ret
    exact ⟨rfl, rfl⟩
  by_cases h10 : b = 10
  · subst h10
    go_enter Tryz.func40, Tryz.ntmps40
    go_wp2_with fail
    go_ret
    exact ⟨rfl, rfl⟩
  by_cases h12 : b = 12
  · subst h12
    go_enter Tryz.func40, Tryz.ntmps40
    go_wp2_with fail
    go_ret
    exact ⟨rfl, rfl⟩
  by_cases h13 : b = 13
  · subst h13
    go_enter Tryz.func40, Tryz.ntmps40
    go_wp2_with fail
    go_ret
    exact ⟨rfl, rfl⟩
  have e32 : ((b.toNat : Int) == 32) = false := u8_ne (c := 32) (by decide) h32
  have e9 : ((b.toNat : Int) == 9) = false := u8_ne (c := 9) (by decide) h9
  have e10 : ((b.toNat : Int) == 10) = false := u8_ne (c := 10) (by decide) h10
  have e12 : ((b.toNat : Int) == 12) = false := u8_ne (c := 12) (by decide) h12
  have e13 : ((b.toNat : Int) == 13) = false := u8_ne (c := 13) (by decide) h13
  have HV := Lib.hid (show blankB b = false from by unfold blankB; simp [h32, h9, h10, h12, h13])
  clear h32 h9 h10 h12 h13
  go_enter Tryz.func40, Tryz.ntmps40
  go_wp2_with fail
  go_ret
  exact ⟨by first | (rw [HV.out]; rfl) | rfl, rfl⟩
theorem letter_any (b : UInt8) (w : World) : Calls Tryz.prog 35 #[.int .u8 (b.toNat : Int)] w fun e w' => e = .returned (.bool (letterB b)) ∧ w' = w := by
  have hl : letterB b = (decide (97 ≤ bits .or .u8 (b.toNat : Int) 32) && decide (bits .or .u8 (b.toNat : Int) 32 ≤ 122)) := rfl
  generalize hx : bits .or .u8 (b.toNat : Int) 32 = x at hl
  by_cases h1 : 97 ≤ x
  · by_cases h2 : x ≤ 122
    · have HV := Lib.hid (show letterB b = true from by rw [hl]; simp [h1, h2])
      rw [← hx] at h1 h2
      clear hl hx
      go_enter Tryz.func35, Tryz.ntmps35
      go_wp2_with fail
      go_ret
      exact ⟨by first | (rw [HV.out]; rfl) | rfl, rfl⟩
    · have HV := Lib.hid (show letterB b = false from by rw [hl]; simp [h2])
      rw [← hx] at h1 h2
      clear hl hx
      go_enter Tryz.func35, Tryz.ntmps35
      go_wp2_with fail
      go_ret
      exact ⟨by first | (rw [HV.out]; rfl) | rfl, rfl⟩
  · have HV := Lib.hid (show letterB b = false from by rw [hl]; simp [h1])
    rw [← hx] at h1
    clear hl hx
    go_enter Tryz.func35, Tryz.ntmps35
    go_wp2_with fail
    go_ret
    exact ⟨by first | (rw [HV.out]; rfl) | rfl, rfl⟩
theorem skipNot_any (b : UInt8) (w : World) : Calls Tryz.prog 57 #[.int .u8 (b.toNat : Int)] w fun e w' => e = .returned (.bool (!skipB b)) ∧ w' = w := by
  have HB := Lib.hid (blank_any b w)
  cases hb : blankB b with
  | true =>
    have HV := Lib.hid (show (!skipB b) = false from by unfold skipB; simp [hb])
    rw [hb] at HB
    clear hb
    go_enter Tryz.func57, Tryz.ntmps57
    go_wp2_with (go_at_call 40; refine HB.out.mono ?_; rintro e w2 ⟨rfl, rfl⟩)
    go_ret
    exact ⟨by first | (rw [HV.out]; rfl) | rfl, rfl⟩
  | false =>
    by_cases h47 : b = 47
    · have e47 : ((b.toNat : Int) == 47) = true := by rw [h47]; rfl
      have n47 : ((b.toNat : Int) != 47) = false := by simp only [bne, e47]; rfl
      have HV := Lib.hid (show (!skipB b) = false from by unfold skipB; simp [h47])
      rw [hb] at HB
      clear hb h47
      go_enter Tryz.func57, Tryz.ntmps57
      go_wp2_with (go_at_call 40; refine HB.out.mono ?_; rintro e w2 ⟨rfl, rfl⟩)
      go_ret
      exact ⟨by first | (rw [HV.out]; rfl) | rfl, rfl⟩
    have e47 : ((b.toNat : Int) == 47) = false := u8_ne (c := 47) (by decide) h47
    have n47 : ((b.toNat : Int) != 47) = true := by simp only [bne, e47]; rfl
    have HV := Lib.hid (show (!skipB b) = true from by unfold skipB; simp [hb, h47])
    rw [hb] at HB
    clear hb h47
    go_enter Tryz.func57, Tryz.ntmps57
    go_wp2_with (go_at_call 40; refine HB.out.mono ?_; rintro e w2 ⟨rfl, rfl⟩)
    go_ret
    exact ⟨by first | (rw [HV.out]; rfl) | rfl, rfl⟩
theorem blankNot_any (b : UInt8) (w : World) : Calls Tryz.prog 82 #[.int .u8 (b.toNat : Int)] w fun e w' => e = .returned (.bool (!blankB b)) ∧ w' = w := by
  have HB := Lib.hid (blank_any b w)
  cases hb : blankB b with
  | true =>
    have HV := Lib.hid (show (!blankB b) = false from by simp [hb])
    rw [hb] at HB
    clear hb
    go_enter Tryz.func82, Tryz.ntmps82
    go_wp2_with (go_at_call 40; refine HB.out.mono ?_; rintro e w2 ⟨rfl, rfl⟩)
    go_ret
    exact ⟨by first | (rw [HV.out]; rfl) | rfl, rfl⟩
  | false =>
    have HV := Lib.hid (show (!blankB b) = true from by simp [hb])
    rw [hb] at HB
    clear hb
    go_enter Tryz.func82, Tryz.ntmps82
    go_wp2_with (go_at_call 40; refine HB.out.mono ?_; rintro e w2 ⟨rfl, rfl⟩)
    go_ret
    exact ⟨by first | (rw [HV.out]; rfl) | rfl, rfl⟩
theorem blankNot2_any (b : UInt8) (w : World) : Calls Tryz.prog 97 #[.int .u8 (b.toNat : Int)] w fun e w' => e = .returned (.bool (!blankB b)) ∧ w' = w := by
  have HB := Lib.hid (blank_any b w)
  cases hb : blankB b with
  | true =>
    have HV := Lib.hid (show (!blankB b) = false from by simp [hb])
    rw [hb] at HB
    clear hb
    go_enter Tryz.func97, Tryz.ntmps97
    go_wp2_with (go_at_call 40; refine HB.out.mono ?_; rintro e w2 ⟨rfl, rfl⟩)
    go_ret
    exact ⟨by first | (rw [HV.out]; rfl) | rfl, rfl⟩
  | false =>
    have HV := Lib.hid (show (!blankB b) = true from by simp [hb])
    rw [hb] at HB
    clear hb
    go_enter Tryz.func97, Tryz.ntmps97
    go_wp2_with (go_at_call 40; refine HB.out.mono ?_; rintro e w2 ⟨rfl, rfl⟩)
    go_ret
    exact ⟨by first | (rw [HV.out]; rfl) | rfl, rfl⟩
theorem tagStop_any (b : UInt8) (w : World) : Calls Tryz.prog 56 #[.int .u8 (b.toNat : Int)] w fun e w' => e = .returned (.bool (!tagB b)) ∧ w' = w := by
  have HB := Lib.hid (blank_any b w)
  cases hb : blankB b with
  | true =>
    have HV := Lib.hid (show (!tagB b) = true from by unfold tagB; simp [hb])
    rw [hb] at HB
    clear hb
    go_enter Tryz.func56, Tryz.ntmps56
    go_wp2_with (go_at_call 40; refine HB.out.mono ?_; rintro e w2 ⟨rfl, rfl⟩)
    go_ret
    exact ⟨by first | (rw [HV.out]; rfl) | rfl, rfl⟩
  | false =>
    by_cases h47 : b = 47
    · have e47 : ((b.toNat : Int) == 47) = true := by rw [h47]; rfl
      have n47 : ((b.toNat : Int) != 47) = false := by simp only [bne, e47]; rfl
      have HV := Lib.hid (show (!tagB b) = true from by unfold tagB; simp [h47])
      rw [hb] at HB
      clear hb h47
      go_enter Tryz.func56, Tryz.ntmps56
      go_wp2_with (go_at_call 40; refine HB.out.mono ?_; rintro e w2 ⟨rfl, rfl⟩)
      go_ret
      exact ⟨by first | (rw [HV.out]; rfl) | rfl, rfl⟩
    have e47 : ((b.toNat : Int) == 47) = false := u8_ne (c := 47) (by decide) h47
    have n47 : ((b.toNat : Int) != 47) = true := by simp only [bne, e47]; rfl
    by_cases h62 : b = 62
    · have e62 : ((b.toNat : Int) == 62) = true := by rw [h62]; rfl
      have n62 : ((b.toNat : Int) != 62) = false := by simp only [bne, e62]; rfl
      have HV := Lib.hid (show (!tagB b) = true from by unfold tagB; simp [h62])
      rw [hb] at HB
      clear hb h62
      go_enter Tryz.func56, Tryz.ntmps56
      go_wp2_with (go_at_call 40; refine HB.out.mono ?_; rintro e w2 ⟨rfl, rfl⟩)
      go_ret
      exact ⟨by first | (rw [HV.out]; rfl) | rfl, rfl⟩
    have e62 : ((b.toNat : Int) == 62) = false := u8_ne (c := 62) (by decide) h62
    have n62 : ((b.toNat : Int) != 62) = true := by simp only [bne, e62]; rfl
    have HV := Lib.hid (show (!tagB b) = false from by unfold tagB; simp [hb, h47, h62])
    rw [hb] at HB
    clear hb h47 h62
    go_enter Tryz.func56, Tryz.ntmps56
    go_wp2_with (go_at_call 40; refine HB.out.mono ?_; rintro e w2 ⟨rfl, rfl⟩)
    go_ret
    exact ⟨by first | (rw [HV.out]; rfl) | rfl, rfl⟩
theorem anStop_any (b : UInt8) (w : World) : Calls Tryz.prog 81 #[.int .u8 (b.toNat : Int)] w fun e w' => e = .returned (.bool (!anB b)) ∧ w' = w := by
  have HB := Lib.hid (blank_any b w)
  cases hb : blankB b with
  | true =>
    have HV := Lib.hid (show (!anB b) = true from by unfold anB; simp [hb])
    rw [hb] at HB
    clear hb
    go_enter Tryz.func81, Tryz.ntmps81
    go_wp2_with (go_at_call 40; refine HB.out.mono ?_; rintro e w2 ⟨rfl, rfl⟩)
    go_ret
    exact ⟨by first | (rw [HV.out]; rfl) | rfl, rfl⟩
  | false =>
    by_cases h47 : b = 47
    · have e47 : ((b.toNat : Int) == 47) = true := by rw [h47]; rfl
      have n47 : ((b.toNat : Int) != 47) = false := by simp only [bne, e47]; rfl
      have HV := Lib.hid (show (!anB b) = true from by unfold anB; simp [h47])
      rw [hb] at HB
      clear hb h47
      go_enter Tryz.func81, Tryz.ntmps81
      go_wp2_with (go_at_call 40; refine HB.out.mono ?_; rintro e w2 ⟨rfl, rfl⟩)
      go_ret
      exact ⟨by first | (rw [HV.out]; rfl) | rfl, rfl⟩
    have e47 : ((b.toNat : Int) == 47) = false := u8_ne (c := 47) (by decide) h47
    have n47 : ((b.toNat : Int) != 47) = true := by simp only [bne, e47]; rfl
    by_cases h62 : b = 62
    · have e62 : ((b.toNat : Int) == 62) = true := by rw [h62]; rfl
      have n62 : ((b.toNat : Int) != 62) = false := by simp only [bne, e62]; rfl
      have HV := Lib.hid (show (!anB b) = true from by unfold anB; simp [h62])
      rw [hb] at HB
      clear hb h62
      go_enter Tryz.func81, Tryz.ntmps81
      go_wp2_with (go_at_call 40; refine HB.out.mono ?_; rintro e w2 ⟨rfl, rfl⟩)
      go_ret
      exact ⟨by first | (rw [HV.out]; rfl) | rfl, rfl⟩
    have e62 : ((b.toNat : Int) == 62) = false := u8_ne (c := 62) (by decide) h62
    have n62 : ((b.toNat : Int) != 62) = true := by simp only [bne, e62]; rfl
    by_cases h61 : b = 61
    · have e61 : ((b.toNat : Int) == 61) = true := by rw [h61]; rfl
      have n61 : ((b.toNat : Int) != 61) = false := by simp only [bne, e61]; rfl
      have HV := Lib.hid (show (!anB b) = true from by unfold anB; simp [h61])
      rw [hb] at HB
      clear hb h61
      go_enter Tryz.func81, Tryz.ntmps81
      go_wp2_with (go_at_call 40; refine HB.out.mono ?_; rintro e w2 ⟨rfl, rfl⟩)
      go_ret
      exact ⟨by first | (rw [HV.out]; rfl) | rfl, rfl⟩
    have e61 : ((b.toNat : Int) == 61) = false := u8_ne (c := 61) (by decide) h61
    have n61 : ((b.toNat : Int) != 61) = true := by simp only [bne, e61]; rfl
    have HV := Lib.hid (show (!anB b) = false from by unfold anB; simp [hb, h47, h62, h61])
    rw [hb] at HB
    clear hb h47 h62 h61
    go_enter Tryz.func81, Tryz.ntmps81
    go_wp2_with (go_at_call 40; refine HB.out.mono ?_; rintro e w2 ⟨rfl, rfl⟩)
    go_ret
    exact ⟨by first | (rw [HV.out]; rfl) | rfl, rfl⟩
theorem valStop_any (b : UInt8) (w : World) : Calls Tryz.prog 98 #[.int .u8 (b.toNat : Int)] w fun e w' => e = .returned (.bool (!valB b)) ∧ w' = w := by
  have HB := Lib.hid (blank_any b w)
  cases hb : blankB b with
  | true =>
    have HV := Lib.hid (show (!valB b) = true from by unfold valB; simp [hb])
    rw [hb] at HB
    clear hb
    go_enter Tryz.func98, Tryz.ntmps98
    go_wp2_with (go_at_call 40; refine HB.out.mono ?_; rintro e w2 ⟨rfl, rfl⟩)
    go_ret
    exact ⟨by first | (rw [HV.out]; rfl) | rfl, rfl⟩
  | false =>
    by_cases h62 : b = 62
    · have e62 : ((b.toNat : Int) == 62) = true := by rw [h62]; rfl
      have n62 : ((b.toNat : Int) != 62) = false := by simp only [bne, e62]; rfl
      have HV := Lib.hid (show (!valB b) = true from by unfold valB; simp [h62])
      rw [hb] at HB
      clear hb h62
      go_enter Tryz.func98, Tryz.ntmps98
      go_wp2_with (go_at_call 40; refine HB.out.mono ?_; rintro e w2 ⟨rfl, rfl⟩)
      go_ret
      exact ⟨by first | (rw [HV.out]; rfl) | rfl, rfl⟩
    have e62 : ((b.toNat : Int) == 62) = false := u8_ne (c := 62) (by decide) h62
    have n62 : ((b.toNat : Int) != 62) = true := by simp only [bne, e62]; rfl
    have HV := Lib.hid (show (!valB b) = false from by unfold valB; simp [hb, h62])
    rw [hb] at HB
    clear hb h62
    go_enter Tryz.func98, Tryz.ntmps98
    go_wp2_with (go_at_call 40; refine HB.out.mono ?_; rintro e w2 ⟨rfl, rfl⟩)
    go_ret
    exact ⟨by first | (rw [HV.out]; rfl) | rfl, rfl⟩
theorem raw_any (s : ByteArray) (w : World) : Calls Tryz.prog 25 #[.string s] w fun e w' => e = .returned (.int .i64 (rawN s.data.toList : Int)) ∧ w' = w := by
  have hr : rawN s.data.toList = if s.data.toList = ([115, 99, 114, 105, 112, 116] : List UInt8) ∨ s.data.toList = ([115, 116, 121, 108, 101] : List UInt8) then 1 else if s.data.toList = ([116, 101, 120, 116, 97, 114, 101, 97] : List UInt8) ∨ s.data.toList = ([116, 105, 116, 108, 101] : List UInt8) then 2 else 0 := rfl
  have ht : s.toList = s.data.toList := ByteArray.toList_eq s
  by_cases h0 : s.data.toList = ([115, 99, 114, 105, 112, 116] : List UInt8)
  · have HV := Lib.hid (show rawN s.data.toList = 1 from by rw [hr, h0]; rfl)
    have e0 : (s.toList == ([115, 99, 114, 105, 112, 116] : List UInt8)) = true := by rw [ht, h0]; rfl
    clear hr ht h0
    go_enter Tryz.func25, Tryz.ntmps25
    go_wp2_with fail
    go_ret
    exact ⟨by first | (rw [HV.out]; rfl) | rfl, rfl⟩
  have e0 : (s.toList == ([115, 99, 114, 105, 112, 116] : List UInt8)) = false := by rw [ht]; exact beq_eq_false_iff_ne.2 h0
  by_cases h1 : s.data.toList = ([115, 116, 121, 108, 101] : List UInt8)
  · have HV := Lib.hid (show rawN s.data.toList = 1 from by rw [hr, h1]; rfl)
    have e1 : (s.toList == ([115, 116, 121, 108, 101] : List UInt8)) = true := by rw [ht, h1]; rfl
    clear hr ht h1
    go_enter Tryz.func25, Tryz.ntmps25
    go_wp2_with fail
    go_ret
    exact ⟨by first | (rw [HV.out]; rfl) | rfl, rfl⟩
  have e1 : (s.toList == ([115, 116, 121, 108, 101] : List UInt8)) = false := by rw [ht]; exact beq_eq_false_iff_ne.2 h1
  by_cases h2 : s.data.toList = ([116, 101, 120, 116, 97, 114, 101, 97] : List UInt8)
  · have HV := Lib.hid (show rawN s.data.toList = 2 from by rw [hr, h2]; rfl)
    have e2 : (s.toList == ([116, 101, 120, 116, 97, 114, 101, 97] : List UInt8)) = true := by rw [ht, h2]; rfl
    clear hr ht h2
    go_enter Tryz.func25, Tryz.ntmps25
    go_wp2_with fail
    go_ret
    exact ⟨by first | (rw [HV.out]; rfl) | rfl, rfl⟩
  have e2 : (s.toList == ([116, 101, 120, 116, 97, 114, 101, 97] : List UInt8)) = false := by rw [ht]; exact beq_eq_false_iff_ne.2 h2
  by_cases h3 : s.data.toList = ([116, 105, 116, 108, 101] : List UInt8)
  · have HV := Lib.hid (show rawN s.data.toList = 2 from by rw [hr, h3]; rfl)
    have e3 : (s.toList == ([116, 105, 116, 108, 101] : List UInt8)) = true := by rw [ht, h3]; rfl
    clear hr ht h3
    go_enter Tryz.func25, Tryz.ntmps25
    go_wp2_with fail
    go_ret
    exact ⟨by first | (rw [HV.out]; rfl) | rfl, rfl⟩
  have e3 : (s.toList == ([116, 105, 116, 108, 101] : List UInt8)) = false := by rw [ht]; exact beq_eq_false_iff_ne.2 h3
  have HV := Lib.hid (show rawN s.data.toList = 0 from by rw [hr, if_neg (not_or.2 ⟨h0, h1⟩), if_neg (not_or.2 ⟨h2, h3⟩)])
  clear hr ht h0 h1 h2 h3
  go_enter Tryz.func25, Tryz.ntmps25
  go_wp2_with fail
  go_ret
  exact ⟨by first | (rw [HV.out]; rfl) | rfl, rfl⟩
end Go.Proofs.YtbddnohbkafagaaGreatDoor

/-
Tokens: the walks of Name and attrName.
-/
namespace Go.Proofs.YtbddnohbkafagaaGreatDoor
open Go.RowKit Go.Cl
attribute [local go_sem ↓] Go.wp_at_zero Go.wp_at_succ
/-- A block of bytes: what it holds first. -/
def Bx (w : World) (X : Nat) (l : List UInt8) : Prop := ∃ (cs : Array Value) (f : Nat), w.heap[X]? = some (.cells cs 5 (f, f + 1)) ∧ l.length ≤ f ∧ ∀ j (hj : j < l.length), cs[j]? = some (.int .u8 (l[j].toNat : Int))
theorem Bx.cell {w : World} {X : Nat} {l : List UInt8} (h : Bx w X l) {j : Nat} (hj : j < l.length) : w.cell? ⟨X, j, none⟩ = some (.int .u8 (l[j].toNat : Int)) := by
  obtain ⟨cs, f, h1, _, h3⟩ := h
  rw [cell_of_row w X j cs _ _ h1]
  exact h3 j hj
theorem Bx.free {w : World} {X : Nat} {l : List UInt8} (h : Bx w X l) {j : Nat} (hj : j < l.length) : w.frozen? ⟨X, j, none⟩ = false := by
  obtain ⟨cs, f, h1, h2, _⟩ := h
  simp [World.frozen?, h1]
  omega
theorem Bx.set {w : World} {X : Nat} {l : List UInt8} (h : Bx w X l) (i : Nat) (x : UInt8) : Bx (w.setCell ⟨X, i, none⟩ (.int .u8 (x.toNat : Int))) X (l.set i x) := by
  obtain ⟨cs, f, h1, h2, h3⟩ := h
  refine ⟨cs.setIfInBounds i (.int .u8 (x.toNat : Int)), f, ?_, by rw [List.length_set]; exact h2, fun j hj => ?_⟩
  · simp [World.setCell, Array.getElem?_modify, h1]
  · rw [List.length_set] at hj
    have h4 := h3 j hj
    rw [List.getElem_set, Array.getElem?_setIfInBounds]
    by_cases e : i = j
    · subst e
      rw [if_pos rfl, if_pos rfl, if_pos (Array.getElem?_eq_some_iff.1 h4).1]
    · rw [if_neg e, if_neg e]
      exact h4
theorem Bx.drew {w : World} {X : Nat} {l : List UInt8} (h : Bx w X l) : Bx w.drew X l := h
/-- []byte(s). -/
theorem bytes_new (w : World) (s : ByteArray) : ∃ c w', (convert 9 36 (.string s)).run Tryz.prog w = .ok (.slice (some ⟨w.heap.size, 0, none⟩) s.size c) w' ∧ Below w.heap.size w w' ∧ Bx w' w.heap.size s.data.toList ∧ s.size ≤ c := by
  refine ⟨_, _, run_bytes_of_string w _ _ 5 s Tryz.underlying9 Tryz.underlying36 Tryz.underlying5, ?_, ?_, grownCap_ge _ _ _ _⟩
  · exact ((Below.refl _ _).drew).alloc (Nat.le_refl _) _
  · refine ⟨_, _, heap_alloc_new w.drew _, ?_, fun j hj => ?_⟩
    · simp [bytesRow]
    · have hj' : j < s.data.size := by simpa using hj
      simp only [bytesRow]
      rw [Array.getElem?_append_left (by simpa using hj'), Array.getElem?_map, Array.getElem?_eq_getElem hj']
      rfl
theorem Bx.str {w : World} {X : Nat} {l : List UInt8} (h : Bx w X l) (c : Nat) : (convert 36 9 (.slice (some ⟨X, 0, none⟩) l.length c)).run Tryz.prog w = .ok (.string ⟨l.toArray⟩) w :=
  run_convert_bytes_back w _ _ 5 ⟨X, 0, none⟩ c l Tryz.underlying36 Tryz.underlying5 Tryz.underlying9 fun j hj => by
    rw [show (⟨X, 0, none⟩ : Addr).add j = ⟨X, j, none⟩ from by unfold Addr.add; split <;> simp_all]
    exact h.cell hj
theorem nameB_up {b : UInt8} (h1 : 65 ≤ b.toNat) (h2 : b.toNat ≤ 90) : nameB b = b + 32 ∧ (IntKind.u8.wrap ((b.toNat : Int) + 32)) = ((nameB b).toNat : Int) := by
  have e : nameB b = b + 32 := if_pos ⟨h1, h2⟩
  refine ⟨e, ?_⟩
  rw [e, IntKind.wrap_u8, UInt8.toNat_add]
  show _ = (((b.toNat + 32) % 256 : Nat) : Int)
  omega
theorem nameB_same {b : UInt8} (h1 : ¬ (65 ≤ b.toNat ∧ b.toNat ≤ 90)) (h2 : (97 ≤ b.toNat ∧ b.toNat ≤ 122) ∨ (48 ≤ b.toNat ∧ b.toNat ≤ 57) ∨ b = 45 ∨ b = 95 ∨ b = 58) : nameB b = b := by
  unfold nameB
  rw [if_neg h1, if_pos h2]
theorem nameB_line {b : UInt8} (h1 : ¬ (65 ≤ b.toNat ∧ b.toNat ≤ 90)) (h2 : ¬ ((97 ≤ b.toNat ∧ b.toNat ≤ 122) ∨ (48 ≤ b.toNat ∧ b.toNat ≤ 57) ∨ b = 45 ∨ b = 95 ∨ b = 58)) : nameB b = 95 := by
  unfold nameB
  rw [if_neg h1, if_neg h2]
/-- One more sign is as it shall be. -/
theorem name_step {t : List UInt8} {k : Nat} (h : k < t.length) : ((t.take k).map nameB ++ t.drop k).set k (nameB t[k]) = (t.take (k + 1)).map nameB ++ t.drop (k + 1) := by
  have h1 : ((t.take k).map nameB).length = k := by rw [List.length_map, List.length_take]; omega
  rw [List.set_append, if_neg (by omega), h1, Nat.sub_self, List.drop_eq_getElem_cons h, List.set_cons_zero, take_snoc (List.getElem?_eq_getElem h), List.map_append, List.append_assoc]
  rfl
theorem name_at {t : List UInt8} {k : Nat} (h : k < t.length) (hk : k < ((t.take k).map nameB ++ t.drop k).length) : ((t.take k).map nameB ++ t.drop k)[k] = t[k] := by
  have h1 : ((t.take k).map nameB).length = k := by rw [List.length_map, List.length_take]; omega
  rw [List.getElem_append_right (by omega), List.getElem_drop]
  congr 1
  omega
theorem name_keep {t : List UInt8} {k : Nat} (h : k < t.length) (he : nameB t[k] = t[k]) : (t.take k).map nameB ++ t.drop k = (t.take (k + 1)).map nameB ++ t.drop (k + 1) := by
  rw [take_snoc (List.getElem?_eq_getElem h), List.map_append, List.append_assoc, List.drop_eq_getElem_cons h]
  show _ ++ (t[k] :: _) = _ ++ (nameB t[k] :: _)
  rw [he]
  rfl
set_option maxRecDepth 100000 in
set_option maxHeartbeats 8000000 in
theorem tkName_any (s : ByteArray) (w : World) : Calls Tryz.prog 24 #[.string s] w fun e w' => e = .returned (.string ⟨(nameL s.data.toList).toArray⟩) ∧ Below w.heap.size w w' := by
  obtain ⟨m, hm, hm1, hm2, hm3⟩ := min_nat s.size 40 (by decide)
  have hm4 : m ≤ 40 := by omega
  obtain ⟨t, ht⟩ : ∃ t, s.data.toList.take m = t := ⟨_, rfl⟩
  have hsl : s.data.toList.length = s.size := by simp
  have htl : t.length = m := by rw [← ht, List.length_take]; omega
  have HN := Lib.hid (show nameL s.data.toList = t.map nameB from by
    unfold nameL
    rw [← ht]
    rcases hm3 with e | e
    · rw [List.take_of_length_le (show s.data.toList.length ≤ 40 by omega), List.take_of_length_le (show s.data.toList.length ≤ m by omega)]
    · rw [show m = 40 by omega])
  obtain ⟨tS, htS⟩ : ∃ tS, s.extract 0 m = tS := ⟨_, rfl⟩
  have hts : tS.data.toList = t := by rw [← htS, ByteArray.data_extract, Array.toList_extract, List.extract_eq_take_drop, ← ht]; simp
  have hss : tS.size = m := by rw [← htl, ← hts]; simp
  obtain ⟨c, w1, hcv, hb1, hx1, hc1⟩ := bytes_new w tS
  rw [hts] at hx1
  rw [hss] at hcv
  have HB1 := Lib.hid hb1
  have HX1 := Lib.hid hx1
  have HTL := Lib.hid htl
  have hmc : m ≤ c := by omega
  generalize hX : w.heap.size = X at *
  clear hb1 hx1 hc1 hts hss ht hsl htl hm3
  go_enter Tryz.func24, Tryz.ntmps24
  go_upto_region 3 with fail
  clear hcv
  go_loopw [14] (fun i wr => ∃ k : Nat, k ≤ m ∧ i = .int .i64 (k : Int) ∧ Hid (Bx wr X ((t.take k).map nameB ++ t.drop k)) ∧ Hid (Below X w wr)) (fun i _ => m - (intOf i).toNat)
  case atStart => exact ⟨0, Nat.zero_le _, rfl, HX1, HB1⟩
  case round =>
    obtain ⟨k, hk, rfl, HB, HW⟩ := hrel
    by_cases hkm : k < m
    · have HKL : Hid (k < t.length) := by have := HTL.out; show k < _; omega
      have hlen : ((t.take k).map nameB ++ t.drop k).length = m := by have := HTL.out; rw [List.length_append, List.length_map, List.length_take, List.length_drop]; omega
      have cb := HB.out.cell (j := k) (by omega)
      have fb := HB.out.free (j := k) (by omega)
      rw [name_at HKL.out] at cb
      have i1 : (0 : Int) ≤ (k : Int) := by omega
      have i2 : (k : Int) < (m : Int) := by omega
      have HST := Lib.hid (name_step HKL.out)
      have HKP := Lib.hid (fun he => name_keep HKL.out he)
      generalize hb : t[k]'HKL.out = b at *
      have hb8 := b.toNat_lt
      clear hlen hb
      by_cases q48 : b.toNat < 48
      · skip
        by_cases hq : b = 45
        · have hn : b.toNat = 45 := by rw [hq]; rfl
          have g65 : ¬ (65 : Int) ≤ (b.toNat : Int) := by omega
          have g97 : ¬ (97 : Int) ≤ (b.toNat : Int) := by omega
          have g48 : ¬ (48 : Int) ≤ (b.toNat : Int) := by omega
          have e45 : ((b.toNat : Int) == 45) = true := by rw [beq_iff_eq]; omega
          have e95 : ((b.toNat : Int) == 95) = false := beq_eq_false_iff_ne.2 (by omega)
          have e58 : ((b.toNat : Int) == 58) = false := beq_eq_false_iff_ne.2 (by omega)
          have HB2 := Lib.hid (show Bx wr X ((t.take (k + 1)).map nameB ++ t.drop (k + 1)) from HKP.out (nameB_same (by omega) (by first | omega | (right; right; left; exact hq) | (right; right; right; left; exact hq) | (right; right; right; right; exact hq))) ▸ HB.out)
          clear HKP HST
          go_wp2_with fail
          go_roundw
          case rel => exact ⟨k + 1, by omega, by go_num, HB2, Lib.hid (HW.out)⟩
          case measure => simp [intOf]; omega
        · have hn : b.toNat ≠ 45 := fun e => hq (UInt8.toNat_inj.1 e)
          have g65 : ¬ (65 : Int) ≤ (b.toNat : Int) := by omega
          have g97 : ¬ (97 : Int) ≤ (b.toNat : Int) := by omega
          have g48 : ¬ (48 : Int) ≤ (b.toNat : Int) := by omega
          have e45 : ((b.toNat : Int) == 45) = false := beq_eq_false_iff_ne.2 (by omega)
          have e95 : ((b.toNat : Int) == 95) = false := beq_eq_false_iff_ne.2 (by omega)
          have e58 : ((b.toNat : Int) == 58) = false := beq_eq_false_iff_ne.2 (by omega)
          have HB2 := Lib.hid (show Bx (wr.setCell ⟨X, k, none⟩ (.int .u8 95)) X ((t.take (k + 1)).map nameB ++ t.drop (k + 1)) from by have h := HB.out.set k (nameB b); rw [HST.out, nameB_line (by omega) (by rintro (h | h | h | h | h) <;> first | omega | (rw [h] at e45; exact absurd e45 (by decide)) | (rw [h] at e95; exact absurd e95 (by decide)) | (rw [h] at e58; exact absurd e58 (by decide)))] at h; exact h)
          clear HKP HST
          go_wp2_with fail
          go_roundw
          case rel => exact ⟨k + 1, by omega, by go_num, HB2, Lib.hid (HW.out.setCell (p := ⟨X, k, none⟩) (Nat.le_refl _) _)⟩
          case measure => simp [intOf]; omega
      by_cases q58 : b.toNat < 58
      · skip
        have g65 : ¬ (65 : Int) ≤ (b.toNat : Int) := by omega
        have g97 : ¬ (97 : Int) ≤ (b.toNat : Int) := by omega
        have g48 : (48 : Int) ≤ (b.toNat : Int) := by omega
        have l57 : (b.toNat : Int) ≤ 57 := by omega
        have HB2 := Lib.hid (show Bx wr X ((t.take (k + 1)).map nameB ++ t.drop (k + 1)) from HKP.out (nameB_same (by omega) (by first | omega | (right; right; left; exact hq) | (right; right; right; left; exact hq) | (right; right; right; right; exact hq))) ▸ HB.out)
        clear HKP HST
        go_wp2_with fail
        go_roundw
        case rel => exact ⟨k + 1, by omega, by go_num, HB2, Lib.hid (HW.out)⟩
        case measure => simp [intOf]; omega
      by_cases q65 : b.toNat < 65
      · skip
        by_cases hq : b = 58
        · have hn : b.toNat = 58 := by rw [hq]; rfl
          have g65 : ¬ (65 : Int) ≤ (b.toNat : Int) := by omega
          have g97 : ¬ (97 : Int) ≤ (b.toNat : Int) := by omega
          have g48 : (48 : Int) ≤ (b.toNat : Int) := by omega
          have l57 : ¬ (b.toNat : Int) ≤ 57 := by omega
          have e45 : ((b.toNat : Int) == 45) = false := beq_eq_false_iff_ne.2 (by omega)
          have e95 : ((b.toNat : Int) == 95) = false := beq_eq_false_iff_ne.2 (by omega)
          have e58 : ((b.toNat : Int) == 58) = true := by rw [beq_iff_eq]; omega
          have HB2 := Lib.hid (show Bx wr X ((t.take (k + 1)).map nameB ++ t.drop (k + 1)) from HKP.out (nameB_same (by omega) (by first | omega | (right; right; left; exact hq) | (right; right; right; left; exact hq) | (right; right; right; right; exact hq))) ▸ HB.out)
          clear HKP HST
          go_wp2_with fail
          go_roundw
          case rel => exact ⟨k + 1, by omega, by go_num, HB2, Lib.hid (HW.out)⟩
          case measure => simp [intOf]; omega
        · have hn : b.toNat ≠ 58 := fun e => hq (UInt8.toNat_inj.1 e)
          have g65 : ¬ (65 : Int) ≤ (b.toNat : Int) := by omega
          have g97 : ¬ (97 : Int) ≤ (b.toNat : Int) := by omega
          have g48 : (48 : Int) ≤ (b.toNat : Int) := by omega
          have l57 : ¬ (b.toNat : Int) ≤ 57 := by omega
          have e45 : ((b.toNat : Int) == 45) = false := beq_eq_false_iff_ne.2 (by omega)
          have e95 : ((b.toNat : Int) == 95) = false := beq_eq_false_iff_ne.2 (by omega)
          have e58 : ((b.toNat : Int) == 58) = false := beq_eq_false_iff_ne.2 (by omega)
          have HB2 := Lib.hid (show Bx (wr.setCell ⟨X, k, none⟩ (.int .u8 95)) X ((t.take (k + 1)).map nameB ++ t.drop (k + 1)) from by have h := HB.out.set k (nameB b); rw [HST.out, nameB_line (by omega) (by rintro (h | h | h | h | h) <;> first | omega | (rw [h] at e45; exact absurd e45 (by decide)) | (rw [h] at e95; exact absurd e95 (by decide)) | (rw [h] at e58; exact absurd e58 (by decide)))] at h; exact h)
          clear HKP HST
          go_wp2_with fail
          go_roundw
          case rel => exact ⟨k + 1, by omega, by go_num, HB2, Lib.hid (HW.out.setCell (p := ⟨X, k, none⟩) (Nat.le_refl _) _)⟩
          case measure => simp [intOf]; omega
      by_cases q91 : b.toNat < 91
      · skip
        have g65 : (65 : Int) ≤ (b.toNat : Int) := by omega
        have l90 : (b.toNat : Int) ≤ 90 := by omega
        have HV2 := Lib.hid (show (b.toNat : Int) + 32 = ((nameB b).toNat : Int) from by have h := (nameB_up (b := b) (by omega) (by omega)).2; rw [IntKind.wrap_u8] at h; omega)
        have HB2 := Lib.hid (show Bx (wr.setCell ⟨X, k, none⟩ (.int .u8 ((nameB b).toNat : Int))) X ((t.take (k + 1)).map nameB ++ t.drop (k + 1)) from HST.out ▸ HB.out.set k (nameB b))
        clear HKP HST
        go_wp2_with fail
        go_roundw
        case rel => exact ⟨k + 1, by omega, by go_num, Lib.hid (by rw [HV2.out]; exact HB2.out), Lib.hid (HW.out.setCell (p := ⟨X, k, none⟩) (Nat.le_refl _) _)⟩
        case measure => simp [intOf]; omega
      by_cases q97 : b.toNat < 97
      · skip
        by_cases hq : b = 95
        · have hn : b.toNat = 95 := by rw [hq]; rfl
          have g65 : (65 : Int) ≤ (b.toNat : Int) := by omega
          have l90 : ¬ (b.toNat : Int) ≤ 90 := by omega
          have g97 : ¬ (97 : Int) ≤ (b.toNat : Int) := by omega
          have g48 : (48 : Int) ≤ (b.toNat : Int) := by omega
          have l57 : ¬ (b.toNat : Int) ≤ 57 := by omega
          have e45 : ((b.toNat : Int) == 45) = false := beq_eq_false_iff_ne.2 (by omega)
          have e95 : ((b.toNat : Int) == 95) = true := by rw [beq_iff_eq]; omega
          have e58 : ((b.toNat : Int) == 58) = false := beq_eq_false_iff_ne.2 (by omega)
          have HB2 := Lib.hid (show Bx wr X ((t.take (k + 1)).map nameB ++ t.drop (k + 1)) from HKP.out (nameB_same (by omega) (by first | omega | (right; right; left; exact hq) | (right; right; right; left; exact hq) | (right; right; right; right; exact hq))) ▸ HB.out)
          clear HKP HST
          go_wp2_with fail
          go_roundw
          case rel => exact ⟨k + 1, by omega, by go_num, HB2, Lib.hid (HW.out)⟩
          case measure => simp [intOf]; omega
        · have hn : b.toNat ≠ 95 := fun e => hq (UInt8.toNat_inj.1 e)
          have g65 : (65 : Int) ≤ (b.toNat : Int) := by omega
          have l90 : ¬ (b.toNat : Int) ≤ 90 := by omega
          have g97 : ¬ (97 : Int) ≤ (b.toNat : Int) := by omega
          have g48 : (48 : Int) ≤ (b.toNat : Int) := by omega
          have l57 : ¬ (b.toNat : Int) ≤ 57 := by omega
          have e45 : ((b.toNat : Int) == 45) = false := beq_eq_false_iff_ne.2 (by omega)
          have e95 : ((b.toNat : Int) == 95) = false := beq_eq_false_iff_ne.2 (by omega)
          have e58 : ((b.toNat : Int) == 58) = false := beq_eq_false_iff_ne.2 (by omega)
          have HB2 := Lib.hid (show Bx (wr.setCell ⟨X, k, none⟩ (.int .u8 95)) X ((t.take (k + 1)).map nameB ++ t.drop (k + 1)) from by have h := HB.out.set k (nameB b); rw [HST.out, nameB_line (by omega) (by rintro (h | h | h | h | h) <;> first | omega | (rw [h] at e45; exact absurd e45 (by decide)) | (rw [h] at e95; exact absurd e95 (by decide)) | (rw [h] at e58; exact absurd e58 (by decide)))] at h; exact h)
          clear HKP HST
          go_wp2_with fail
          go_roundw
          case rel => exact ⟨k + 1, by omega, by go_num, HB2, Lib.hid (HW.out.setCell (p := ⟨X, k, none⟩) (Nat.le_refl _) _)⟩
          case measure => simp [intOf]; omega
      by_cases q123 : b.toNat < 123
      · skip
        have g65 : (65 : Int) ≤ (b.toNat : Int) := by omega
        have l90 : ¬ (b.toNat : Int) ≤ 90 := by omega
        have g97 : (97 : Int) ≤ (b.toNat : Int) := by omega
        have l122 : (b.toNat : Int) ≤ 122 := by omega
        have HB2 := Lib.hid (show Bx wr X ((t.take (k + 1)).map nameB ++ t.drop (k + 1)) from HKP.out (nameB_same (by omega) (by first | omega | (right; right; left; exact hq) | (right; right; right; left; exact hq) | (right; right; right; right; exact hq))) ▸ HB.out)
        clear HKP HST
        go_wp2_with fail
        go_roundw
        case rel => exact ⟨k + 1, by omega, by go_num, HB2, Lib.hid (HW.out)⟩
        case measure => simp [intOf]; omega
      have hq : b ≠ 45 ∧ b ≠ 95 ∧ b ≠ 58 := ⟨fun e => by subst e; exact absurd q123 (by decide), fun e => by subst e; exact absurd q123 (by decide), fun e => by subst e; exact absurd q123 (by decide)⟩
      have g65 : (65 : Int) ≤ (b.toNat : Int) := by omega
      have l90 : ¬ (b.toNat : Int) ≤ 90 := by omega
      have g97 : (97 : Int) ≤ (b.toNat : Int) := by omega
      have l122 : ¬ (b.toNat : Int) ≤ 122 := by omega
      have g48 : (48 : Int) ≤ (b.toNat : Int) := by omega
      have l57 : ¬ (b.toNat : Int) ≤ 57 := by omega
      have e45 : ((b.toNat : Int) == 45) = false := beq_eq_false_iff_ne.2 (by omega)
      have e95 : ((b.toNat : Int) == 95) = false := beq_eq_false_iff_ne.2 (by omega)
      have e58 : ((b.toNat : Int) == 58) = false := beq_eq_false_iff_ne.2 (by omega)
      have HB2 := Lib.hid (show Bx (wr.setCell ⟨X, k, none⟩ (.int .u8 95)) X ((t.take (k + 1)).map nameB ++ t.drop (k + 1)) from by have h := HB.out.set k (nameB b); rw [HST.out, nameB_line (by omega) (by rintro (h | h | h | h | h) <;> first | omega | (rw [h] at e45; exact absurd e45 (by decide)) | (rw [h] at e95; exact absurd e95 (by decide)) | (rw [h] at e58; exact absurd e58 (by decide)))] at h; exact h)
      clear HKP HST
      go_wp2_with fail
      go_roundw
      case rel => exact ⟨k + 1, by omega, by go_num, HB2, Lib.hid (HW.out.setCell (p := ⟨X, k, none⟩) (Nat.le_refl _) _)⟩
      case measure => simp [intOf]; omega
    · obtain rfl : k = m := by omega
      have hcv : (convert 36 9 (.slice (some ⟨X, 0, none⟩) k c)).run Tryz.prog wr = .ok (.string ⟨(t.map nameB).toArray⟩) wr := by
        have h := HB.out
        rw [List.take_of_length_le (by have := HTL.out; omega), List.drop_eq_nil_of_le (by have := HTL.out; omega), List.append_nil] at h
        have h2 := h.str c
        rw [List.length_map, HTL.out] at h2
        exact h2
      go_wp2_with fail
      go_ret
      exact ⟨by rw [HN.out]; rfl, HW.out⟩
end Go.Proofs.YtbddnohbkafagaaGreatDoor

/-
Tokens: the reader's until.
-/
namespace Go.Proofs.YtbddnohbkafagaaGreatDoor
open Go.RowKit Go.Cl
attribute [local go_sem ↓] Go.wp_at_zero Go.wp_at_succ
/-- The reader in its box: the text, where it is, where the last markup ended, the row of tokens. -/
def Rc (w : World) (X : Nat) (s : ByteArray) (a : Nat) (E : Int) (O : Value) : Prop := w.heap[X]? = some (.cells #[.string s, .int .i64 (a : Int), .int .i64 E, O] 57 (0, 0))
section
variable {w w' : World} {X : Nat} {s : ByteArray} {a : Nat} {E : Int} {O : Value}
theorem Rc.c0 (h : Rc w X s a E O) : w.cell? ⟨X, 0, none⟩ = some (.string s) := cell_blk (i := 0) h rfl
theorem Rc.c1 (h : Rc w X s a E O) : w.cell? ⟨X, 1, none⟩ = some (.int .i64 (a : Int)) := cell_blk (i := 1) h rfl
theorem Rc.c2 (h : Rc w X s a E O) : w.cell? ⟨X, 2, none⟩ = some (.int .i64 E) := cell_blk (i := 2) h rfl
theorem Rc.c3 (h : Rc w X s a E O) : w.cell? ⟨X, 3, none⟩ = some O := cell_blk (i := 3) h rfl
theorem Rc.fr (h : Rc w X s a E O) (i : Nat) : w.frozen? ⟨X, i, none⟩ = false := free_blk h
theorem Rc.lt (h : Rc w X s a E O) : X < w.heap.size := (Array.getElem?_eq_some_iff.1 h).1
theorem Rc.drew (h : Rc w X s a E O) : Rc w.drew X s a E O := h
theorem Rc.next (h : Rc w X s a E O) (hb : Below w.heap.size w w') : Rc w' X s a E O := (hb.block X h.lt).trans h
/-- The reader has gone on. -/
theorem Rc.go (h : Rc w X s a E O) (b : Nat) : Rc (w.setCell ⟨X, 1, none⟩ (.int .i64 (b : Int))) X s b E O ∧ w.grownBy (w.setCell ⟨X, 1, none⟩ (.int .i64 (b : Int))) (some X) := ⟨set_blk h _, grown_set w X 1 _⟩
end
theorem grown_below {a b : World} (h : Below a.heap.size a b) (row : Option Nat) : a.grownBy b row := ⟨h.os, h.tape, h.output, h.size, fun k hk _ => h.block k hk⟩
def atOf (W : World) (X : Nat) : Nat := match W.cell? ⟨X, 1, none⟩ with
  | some (.int _ i) => i.toNat
  | _ => 0
theorem Rc.at_ {w : World} {X : Nat} {s : ByteArray} {a : Nat} {E : Int} {O : Value} (h : Rc w X s a E O) : atOf w X = a := by
  unfold atOf
  rw [h.c1]
  simp
theorem take_end (p : UInt8 → Bool) {l : List UInt8} {j : Nat} (h : l.length ≤ j) : (l.drop j).takeWhile p = [] := by rw [List.drop_eq_nil_of_le h]; rfl
theorem take_stop (p : UInt8 → Bool) {l : List UInt8} {j : Nat} (h : j < l.length) (hp : p l[j] = false) : (l.drop j).takeWhile p = [] := by rw [List.drop_eq_getElem_cons h, List.takeWhile_cons, hp]; rfl
theorem take_more (p : UInt8 → Bool) {l : List UInt8} {j : Nat} (h : j < l.length) (hp : p l[j] = true) : (l.drop j).takeWhile p = l[j] :: (l.drop (j + 1)).takeWhile p := by rw [List.drop_eq_getElem_cons h, List.takeWhile_cons, hp]; rfl
theorem cut_at (s : ByteArray) {a j : Nat} {x : List UInt8} (h : s.data.toList.drop a = x ++ s.data.toList.drop j) (hj : j = a + x.length) : s.extract a j = ⟨x.toArray⟩ := by
  apply ByteArray.ext
  apply Array.toList_inj.1
  rw [ByteArray.data_extract, Array.toList_extract, List.extract_eq_take_drop, h, hj, show a + x.length - a = x.length by omega, List.take_left']
  rfl
theorem drop_more {l : List UInt8} {a j : Nat} {x : List UInt8} (h : l.drop a = x ++ l.drop j) (hj : j < l.length) : l.drop a = (x ++ [l[j]]) ++ l.drop (j + 1) := by rw [h, List.drop_eq_getElem_cons hj, List.append_assoc]; rfl
set_option maxRecDepth 100000 in
set_option maxHeartbeats 4000000 in
theorem until_any (f : FuncId) (p : UInt8 → Bool) (hent : ∀ args w, (callFunc f args).run Tryz.prog w = .ok (.enter f args) w) (hf : ∀ (b : UInt8) (u : World), Calls Tryz.prog f #[.int .u8 (b.toNat : Int)] u fun e w' => e = .returned (.bool (!p b)) ∧ w' = u) (X : Nat) (s : ByteArray) (a : Nat) (E : Int) (O : Value) (w : World) (ha : a ≤ s.size) (hs : s.size ≤ 1000000) (h : Rc w X s a E O) :
    Calls Tryz.prog 55 #[.pointer (some ⟨X, 0, none⟩), .func (.func f) #[] #[]] w fun e w' => e = .returned (.string ⟨((s.data.toList.drop a).takeWhile p).toArray⟩) ∧ w.grownBy w' (some X) ∧ Rc w' X s (a + ((s.data.toList.drop a).takeWhile p).length) E O := by
  have HLEN := Lib.hid (show s.data.toList.length = s.size by simp)
  have H := Lib.hid h
  have HF0 := Lib.hid hf
  clear hf
  have c1 := h.c1
  clear h
  go_enter Tryz.func55, Tryz.ntmps55
  go_upto_region 2 with fail
  clear c1
  go_loopw [] (fun wr => ∃ (j : Nat) (x : List UInt8), j ≤ s.size ∧ j = a + x.length ∧ Hid (s.data.toList.drop a = x ++ s.data.toList.drop j) ∧ Hid ((s.data.toList.drop a).takeWhile p = x ++ (s.data.toList.drop j).takeWhile p) ∧ Hid (Rc wr X s j E O) ∧ Hid (w.grownBy wr (some X))) (fun wr => s.size - atOf wr X)
  case atStart => exact ⟨a, [], ha, rfl, Lib.hid rfl, Lib.hid rfl, H, Lib.hid (World.grownBy.refl w _)⟩
  case round =>
    obtain ⟨j, x, hj, hjx, HD, HT, HR, HG⟩ := hrel
    have HJ := Lib.hid hjx
    have i0 : (0 : Int) ≤ (a : Int) := by omega
    have i1 : (a : Int) ≤ (j : Int) := by omega
    have i2 : (0 : Int) ≤ (j : Int) := by omega
    have i3 : (j : Int) ≤ (s.size : Int) := by omega
    have HX := Lib.hid (cut_at s HD.out hjx)
    have HM := Lib.hid HR.out.at_
    clear hjx
    by_cases hlt : j < s.size
    · have hlt' : (j : Int) < (s.size : Int) := by omega
      have HLT : Hid (j < s.data.toList.length) := by have := HLEN.out; show j < _; omega
      cases hp : p s[j] with
      | true =>
        have HF : Hid (Calls Tryz.prog f #[.int .u8 (s[j].toNat : Int)] wr.drew fun e w' => e = .returned (.bool false) ∧ w' = wr.drew) := by have h := HF0.out s[j] wr.drew; rw [hp] at h; exact h
        have HT2 := Lib.hid (show (s.data.toList.drop a).takeWhile p = (x ++ [s[j]]) ++ (s.data.toList.drop (j + 1)).takeWhile p from by rw [HT.out, take_more _ HLT.out hp, List.append_assoc]; rfl)
        have HD2 := Lib.hid (drop_more HD.out HLT.out)
        have w1 : IntKind.i64.wrap ((j : Int) + 1) = (j : Int) + 1 := IntWalk.i64_in _ (by omega)
        clear hp HT HD
        go_upto_region 2 with fail
        refine wp_region_G (S := (fun W : World => W.cell? ⟨X, 0, none⟩ = some (.string s) ∧ W.cell? ⟨X, 1, none⟩ = some (.int .i64 (j : Int)))) (T := []) (by kernel_rfl) ?_
        have hS : (fun W : World => W.cell? ⟨X, 0, none⟩ = some (.string s) ∧ W.cell? ⟨X, 1, none⟩ = some (.int .i64 (j : Int))) wr.drew := ⟨HR.out.c0, HR.out.c1⟩
        refine wpAnyG_pureW (i := 0) (v := ?_) rfl (by kernel_rfl) (by kernel_rfl) (by kernel_rfl) (fun _ _ _ h => h) (by kernel_rfl) ?_ ?_
        rotate_left
        · intro w'
          first | (go_simp; done) | (go_simp; with_reducible rfl)
        refine wpAnyG_pureW (i := 1) (v := ?_) rfl (by kernel_rfl) (by kernel_rfl) (by kernel_rfl) (fun _ _ _ h => h) (by kernel_rfl) ?_ ?_
        rotate_left
        · intro w'
          first | (go_simp; done) | (go_simp; with_reducible rfl)
        refine wpAnyG_pureW (i := 2) (v := ?_) rfl (by kernel_rfl) (by kernel_rfl) (by kernel_rfl) (fun _ _ _ h => h) (by kernel_rfl) ?_ ?_
        rotate_left
        · intro w'
          first | (go_simp; done) | (go_simp; with_reducible rfl)
        refine wpAnyG_takeW (i := 3) (v := ?_) rfl (by kernel_rfl) (by kernel_rfl) (by kernel_rfl) (by kernel_rfl) (fun _ _ _ h => h) hS (by kernel_rfl) ?_ ?_
        rotate_left
        · intro w' hSw
          (try dsimp only at hSw)
          first | (go_simp; done) | (go_simp; with_reducible rfl)
        refine wpAnyG_pureW (i := 4) (v := ?_) rfl (by kernel_rfl) (by kernel_rfl) (by kernel_rfl) (fun _ _ _ h => h) (by kernel_rfl) ?_ ?_
        rotate_left
        · intro w'
          first | (go_simp; done) | (go_simp; with_reducible rfl)
        refine wpAnyG_pureW (i := 5) (v := ?_) rfl (by kernel_rfl) (by kernel_rfl) (by kernel_rfl) (fun _ _ _ h => h) (by kernel_rfl) ?_ ?_
        rotate_left
        · intro w'
          first | (go_simp; done) | (go_simp; with_reducible rfl)
        refine wpAnyG_pureW (i := 6) (v := ?_) rfl (by kernel_rfl) (by kernel_rfl) (by kernel_rfl) (fun _ _ _ h => h) (by kernel_rfl) ?_ ?_
        rotate_left
        · intro w'
          first | (go_simp; done) | (go_simp; with_reducible rfl)
        refine wpAnyG_takeW (i := 7) (v := ?_) rfl (by kernel_rfl) (by kernel_rfl) (by kernel_rfl) (by kernel_rfl) (fun _ _ _ h => h) hS (by kernel_rfl) ?_ ?_
        rotate_left
        · intro w' hSw
          (try dsimp only at hSw)
          first | (go_simp; done) | (go_simp; with_reducible rfl)
        refine wpAnyG_pureW (i := 8) (v := ?_) rfl (by kernel_rfl) (by kernel_rfl) (by kernel_rfl) (fun _ _ _ h => h) (by kernel_rfl) ?_ ?_
        rotate_left
        · intro w'
          first | (go_simp; done) | (go_simp; with_reducible rfl)
        refine wpAnyG_pureW (i := 9) (v := ?_) rfl (by kernel_rfl) (by kernel_rfl) (by kernel_rfl) (fun _ _ _ h => h) (by kernel_rfl) ?_ ?_
        rotate_left
        · intro w'
          first | (go_simp; done) | (go_simp; with_reducible rfl)
        refine wpAnyG_pureW (i := 10) (v := ?_) rfl (by kernel_rfl) (by kernel_rfl) (by kernel_rfl) (fun _ _ _ h => h) (by kernel_rfl) ?_ ?_
        rotate_left
        · intro w'
          first | (go_simp; done) | (go_simp; with_reducible rfl)
        refine wpAnyG_pureW (i := 11) (v := ?_) rfl (by kernel_rfl) (by kernel_rfl) (by kernel_rfl) (fun _ _ _ h => h) (by kernel_rfl) ?_ ?_
        rotate_left
        · intro w'
          first | (go_simp; done) | (go_simp; with_reducible rfl)
        refine wpAnyG_pureW (i := 12) (v := ?_) rfl (by kernel_rfl) (by kernel_rfl) (by kernel_rfl) (fun _ _ _ h => h) (by kernel_rfl) ?_ ?_
        rotate_left
        · intro w'
          first | (go_simp; done) | (go_simp; with_reducible rfl)
        refine wpAnyG_pureW (i := 13) (v := ?_) rfl (by kernel_rfl) (by kernel_rfl) (by kernel_rfl) (fun _ _ _ h => h) (by kernel_rfl) ?_ ?_
        rotate_left
        · intro w'
          first | (go_simp; done) | (go_simp; with_reducible rfl)
        refine wpAnyG_pureW (i := 14) (v := ?_) rfl (by kernel_rfl) (by kernel_rfl) (by kernel_rfl) (fun _ _ _ h => h) (by kernel_rfl) ?_ ?_
        rotate_left
        · intro w'
          first | (go_simp; done) | (go_simp; with_reducible rfl)
        refine wpAnyG_takeW (i := 15) (v := ?_) rfl (by kernel_rfl) (by kernel_rfl) (by kernel_rfl) (by kernel_rfl) (fun _ _ _ h => h) hS (by kernel_rfl) ?_ ?_
        rotate_left
        · intro w' hSw
          (try dsimp only at hSw)
          first | (go_simp; done) | (go_simp; with_reducible rfl)
        refine wpAnyG_pureW (i := 16) (v := ?_) rfl (by kernel_rfl) (by kernel_rfl) (by kernel_rfl) (fun _ _ _ h => h) (by kernel_rfl) ?_ ?_
        rotate_left
        · intro w'
          first | (go_simp; done) | (go_simp; with_reducible rfl)
        refine wpAnyG_pureW (i := 17) (v := ?_) rfl (by kernel_rfl) (by kernel_rfl) (by kernel_rfl) (fun _ _ _ h => h) (by kernel_rfl) ?_ ?_
        rotate_left
        · intro w'
          first | (go_simp; done) | (go_simp; with_reducible rfl)
        refine wpAnyG_pureW (i := 18) (v := ?_) rfl (by kernel_rfl) (by kernel_rfl) (by kernel_rfl) (fun _ _ _ h => h) (by kernel_rfl) ?_ ?_
        rotate_left
        · intro w'
          first | (go_simp; done) | (go_simp; with_reducible rfl)
        refine wpAnyG_takeW (i := 19) (v := ?_) rfl (by kernel_rfl) (by kernel_rfl) (by kernel_rfl) (by kernel_rfl) (fun _ _ _ h => h) hS (by kernel_rfl) ?_ ?_
        rotate_left
        · intro w' hSw
          (try dsimp only at hSw)
          first | (go_simp; done) | (go_simp; with_reducible rfl)
        refine wpAnyG_pureW (i := 20) (v := ?_) rfl (by kernel_rfl) (by kernel_rfl) (by kernel_rfl) (fun _ _ _ h => h) (by kernel_rfl) ?_ ?_
        rotate_left
        · intro w'
          first | (go_simp; done) | (go_simp; with_reducible rfl)
        refine wpAnyG_oneW (i := 21) (by kernel_rfl) rfl (by kernel_rfl) (fun K hK => ?_)
        go_simp
        refine HF.out.mono ?_
        rintro e' V ⟨rfl, rfl⟩
        go_wp2_with fail
        refine hK.out _ _ (fun _ _ => hS) ?_
        clear hK K
        refine wpAnyG_pureW (i := 22) (v := ?_) rfl (by kernel_rfl) (by kernel_rfl) (by kernel_rfl) (fun _ _ _ h => h) (by kernel_rfl) ?_ ?_
        rotate_left
        · intro w'
          first | (go_simp; done) | (go_simp; with_reducible rfl)
        refine wpAnyG_pureW (i := 23) (v := ?_) rfl (by kernel_rfl) (by kernel_rfl) (by kernel_rfl) (fun _ _ _ h => h) (by kernel_rfl) ?_ ?_
        rotate_left
        · intro w'
          first | (go_simp; done) | (go_simp; with_reducible rfl)
        clear hS
        refine wpAnyG_done (by kernel_rfl) ?_ _
        go_simp
        have c1 := HR.out.c1
        have f1 := HR.out.fr 1
        go_wp2_with fail
        have hgo := HR.out.go (j + 1)
        rw [show (((j + 1 : Nat) : Int)) = (j : Int) + 1 from by omega] at hgo
        first
          | (refine ⟨⟨j + 1, x ++ [s[j]], by omega, by rw [List.length_append]; have := HJ.out; show _ = _ + (_ + 1); omega, Lib.hid HD2.out, Lib.hid HT2.out, Lib.hid hgo.1.drew, Lib.hid ((HG.out.trans hgo.2).trans (grown_drew _ _))⟩, ?_⟩
             show s.size - atOf _ X < s.size - atOf wr X
             rw [hgo.1.drew.at_, HM.out]
             omega)
          | skip
      | false =>
        have HF : Hid (Calls Tryz.prog f #[.int .u8 (s[j].toNat : Int)] wr.drew fun e w' => e = .returned (.bool true) ∧ w' = wr.drew) := by have h := HF0.out s[j] wr.drew; rw [hp] at h; exact h
        have HTK := Lib.hid (show (s.data.toList.drop a).takeWhile p = x from by rw [HT.out, take_stop _ HLT.out hp, List.append_nil])
        clear hp HT HD
        go_upto_region 2 with fail
        refine wp_region_G (S := (fun W : World => W.cell? ⟨X, 0, none⟩ = some (.string s) ∧ W.cell? ⟨X, 1, none⟩ = some (.int .i64 (j : Int)))) (T := []) (by kernel_rfl) ?_
        have hS : (fun W : World => W.cell? ⟨X, 0, none⟩ = some (.string s) ∧ W.cell? ⟨X, 1, none⟩ = some (.int .i64 (j : Int))) wr.drew := ⟨HR.out.c0, HR.out.c1⟩
        refine wpAnyG_pureW (i := 0) (v := ?_) rfl (by kernel_rfl) (by kernel_rfl) (by kernel_rfl) (fun _ _ _ h => h) (by kernel_rfl) ?_ ?_
        rotate_left
        · intro w'
          first | (go_simp; done) | (go_simp; with_reducible rfl)
        refine wpAnyG_pureW (i := 1) (v := ?_) rfl (by kernel_rfl) (by kernel_rfl) (by kernel_rfl) (fun _ _ _ h => h) (by kernel_rfl) ?_ ?_
        rotate_left
        · intro w'
          first | (go_simp; done) | (go_simp; with_reducible rfl)
        refine wpAnyG_pureW (i := 2) (v := ?_) rfl (by kernel_rfl) (by kernel_rfl) (by kernel_rfl) (fun _ _ _ h => h) (by kernel_rfl) ?_ ?_
        rotate_left
        · intro w'
          first | (go_simp; done) | (go_simp; with_reducible rfl)
        refine wpAnyG_takeW (i := 3) (v := ?_) rfl (by kernel_rfl) (by kernel_rfl) (by kernel_rfl) (by kernel_rfl) (fun _ _ _ h => h) hS (by kernel_rfl) ?_ ?_
        rotate_left
        · intro w' hSw
          (try dsimp only at hSw)
          first | (go_simp; done) | (go_simp; with_reducible rfl)
        refine wpAnyG_pureW (i := 4) (v := ?_) rfl (by kernel_rfl) (by kernel_rfl) (by kernel_rfl) (fun _ _ _ h => h) (by kernel_rfl) ?_ ?_
        rotate_left
        · intro w'
          first | (go_simp; done) | (go_simp; with_reducible rfl)
        refine wpAnyG_pureW (i := 5) (v := ?_) rfl (by kernel_rfl) (by kernel_rfl) (by kernel_rfl) (fun _ _ _ h => h) (by kernel_rfl) ?_ ?_
        rotate_left
        · intro w'
          first | (go_simp; done) | (go_simp; with_reducible rfl)
        refine wpAnyG_pureW (i := 6) (v := ?_) rfl (by kernel_rfl) (by kernel_rfl) (by kernel_rfl) (fun _ _ _ h => h) (by kernel_rfl) ?_ ?_
        rotate_left
        · intro w'
          first | (go_simp; done) | (go_simp; with_reducible rfl)
        refine wpAnyG_takeW (i := 7) (v := ?_) rfl (by kernel_rfl) (by kernel_rfl) (by kernel_rfl) (by kernel_rfl) (fun _ _ _ h => h) hS (by kernel_rfl) ?_ ?_
        rotate_left
        · intro w' hSw
          (try dsimp only at hSw)
          first | (go_simp; done) | (go_simp; with_reducible rfl)
        refine wpAnyG_pureW (i := 8) (v := ?_) rfl (by kernel_rfl) (by kernel_rfl) (by kernel_rfl) (fun _ _ _ h => h) (by kernel_rfl) ?_ ?_
        rotate_left
        · intro w'
          first | (go_simp; done) | (go_simp; with_reducible rfl)
        refine wpAnyG_pureW (i := 9) (v := ?_) rfl (by kernel_rfl) (by kernel_rfl) (by kernel_rfl) (fun _ _ _ h => h) (by kernel_rfl) ?_ ?_
        rotate_left
        · intro w'
          first | (go_simp; done) | (go_simp; with_reducible rfl)
        refine wpAnyG_pureW (i := 10) (v := ?_) rfl (by kernel_rfl) (by kernel_rfl) (by kernel_rfl) (fun _ _ _ h => h) (by kernel_rfl) ?_ ?_
        rotate_left
        · intro w'
          first | (go_simp; done) | (go_simp; with_reducible rfl)
        refine wpAnyG_pureW (i := 11) (v := ?_) rfl (by kernel_rfl) (by kernel_rfl) (by kernel_rfl) (fun _ _ _ h => h) (by kernel_rfl) ?_ ?_
        rotate_left
        · intro w'
          first | (go_simp; done) | (go_simp; with_reducible rfl)
        refine wpAnyG_pureW (i := 12) (v := ?_) rfl (by kernel_rfl) (by kernel_rfl) (by kernel_rfl) (fun _ _ _ h => h) (by kernel_rfl) ?_ ?_
        rotate_left
        · intro w'
          first | (go_simp; done) | (go_simp; with_reducible rfl)
        refine wpAnyG_pureW (i := 13) (v := ?_) rfl (by kernel_rfl) (by kernel_rfl) (by kernel_rfl) (fun _ _ _ h => h) (by kernel_rfl) ?_ ?_
        rotate_left
        · intro w'
          first | (go_simp; done) | (go_simp; with_reducible rfl)
        refine wpAnyG_pureW (i := 14) (v := ?_) rfl (by kernel_rfl) (by kernel_rfl) (by kernel_rfl) (fun _ _ _ h => h) (by kernel_rfl) ?_ ?_
        rotate_left
        · intro w'
          first | (go_simp; done) | (go_simp; with_reducible rfl)
        refine wpAnyG_takeW (i := 15) (v := ?_) rfl (by kernel_rfl) (by kernel_rfl) (by kernel_rfl) (by kernel_rfl) (fun _ _ _ h => h) hS (by kernel_rfl) ?_ ?_
        rotate_left
        · intro w' hSw
          (try dsimp only at hSw)
          first | (go_simp; done) | (go_simp; with_reducible rfl)
        refine wpAnyG_pureW (i := 16) (v := ?_) rfl (by kernel_rfl) (by kernel_rfl) (by kernel_rfl) (fun _ _ _ h => h) (by kernel_rfl) ?_ ?_
        rotate_left
        · intro w'
          first | (go_simp; done) | (go_simp; with_reducible rfl)
        refine wpAnyG_pureW (i := 17) (v := ?_) rfl (by kernel_rfl) (by kernel_rfl) (by kernel_rfl) (fun _ _ _ h => h) (by kernel_rfl) ?_ ?_
        rotate_left
        · intro w'
          first | (go_simp; done) | (go_simp; with_reducible rfl)
        refine wpAnyG_pureW (i := 18) (v := ?_) rfl (by kernel_rfl) (by kernel_rfl) (by kernel_rfl) (fun _ _ _ h => h) (by kernel_rfl) ?_ ?_
        rotate_left
        · intro w'
          first | (go_simp; done) | (go_simp; with_reducible rfl)
        refine wpAnyG_takeW (i := 19) (v := ?_) rfl (by kernel_rfl) (by kernel_rfl) (by kernel_rfl) (by kernel_rfl) (fun _ _ _ h => h) hS (by kernel_rfl) ?_ ?_
        rotate_left
        · intro w' hSw
          (try dsimp only at hSw)
          first | (go_simp; done) | (go_simp; with_reducible rfl)
        refine wpAnyG_pureW (i := 20) (v := ?_) rfl (by kernel_rfl) (by kernel_rfl) (by kernel_rfl) (fun _ _ _ h => h) (by kernel_rfl) ?_ ?_
        rotate_left
        · intro w'
          first | (go_simp; done) | (go_simp; with_reducible rfl)
        refine wpAnyG_oneW (i := 21) (by kernel_rfl) rfl (by kernel_rfl) (fun K hK => ?_)
        go_simp
        refine HF.out.mono ?_
        rintro e' V ⟨rfl, rfl⟩
        go_wp2_with fail
        refine hK.out _ _ (fun _ _ => hS) ?_
        clear hK K
        refine wpAnyG_pureW (i := 22) (v := ?_) rfl (by kernel_rfl) (by kernel_rfl) (by kernel_rfl) (fun _ _ _ h => h) (by kernel_rfl) ?_ ?_
        rotate_left
        · intro w'
          first | (go_simp; done) | (go_simp; with_reducible rfl)
        refine wpAnyG_pureW (i := 23) (v := ?_) rfl (by kernel_rfl) (by kernel_rfl) (by kernel_rfl) (fun _ _ _ h => h) (by kernel_rfl) ?_ ?_
        rotate_left
        · intro w'
          first | (go_simp; done) | (go_simp; with_reducible rfl)
        clear hS
        refine wpAnyG_done (by kernel_rfl) ?_ _
        go_simp
        go_upto_region 4 with fail
        refine wp_region_G (S := (fun W : World => W.cell? ⟨X, 0, none⟩ = some (.string s) ∧ W.cell? ⟨X, 1, none⟩ = some (.int .i64 (j : Int)))) (T := []) (by kernel_rfl) ?_
        have hS : (fun W : World => W.cell? ⟨X, 0, none⟩ = some (.string s) ∧ W.cell? ⟨X, 1, none⟩ = some (.int .i64 (j : Int))) wr.drew.drew := ⟨HR.out.c0, HR.out.c1⟩
        refine wpAnyG_pureW (i := 0) (v := ?_) rfl (by kernel_rfl) (by kernel_rfl) (by kernel_rfl) (fun _ _ _ h => h) (by kernel_rfl) ?_ ?_
        rotate_left
        · intro w'
          first | (go_simp; done) | (go_simp; with_reducible rfl)
        refine wpAnyG_pureW (i := 1) (v := ?_) rfl (by kernel_rfl) (by kernel_rfl) (by kernel_rfl) (fun _ _ _ h => h) (by kernel_rfl) ?_ ?_
        rotate_left
        · intro w'
          first | (go_simp; done) | (go_simp; with_reducible rfl)
        refine wpAnyG_pureW (i := 2) (v := ?_) rfl (by kernel_rfl) (by kernel_rfl) (by kernel_rfl) (fun _ _ _ h => h) (by kernel_rfl) ?_ ?_
        rotate_left
        · intro w'
          first | (go_simp; done) | (go_simp; with_reducible rfl)
        refine wpAnyG_takeW (i := 3) (v := ?_) rfl (by kernel_rfl) (by kernel_rfl) (by kernel_rfl) (by kernel_rfl) (fun _ _ _ h => h) hS (by kernel_rfl) ?_ ?_
        rotate_left
        · intro w' hSw
          (try dsimp only at hSw)
          first | (go_simp; done) | (go_simp; with_reducible rfl)
        refine wpAnyG_pureW (i := 4) (v := ?_) rfl (by kernel_rfl) (by kernel_rfl) (by kernel_rfl) (fun _ _ _ h => h) (by kernel_rfl) ?_ ?_
        rotate_left
        · intro w'
          first | (go_simp; done) | (go_simp; with_reducible rfl)
        refine wpAnyG_pureW (i := 5) (v := ?_) rfl (by kernel_rfl) (by kernel_rfl) (by kernel_rfl) (fun _ _ _ h => h) (by kernel_rfl) ?_ ?_
        rotate_left
        · intro w'
          first | (go_simp; done) | (go_simp; with_reducible rfl)
        refine wpAnyG_pureW (i := 6) (v := ?_) rfl (by kernel_rfl) (by kernel_rfl) (by kernel_rfl) (fun _ _ _ h => h) (by kernel_rfl) ?_ ?_
        rotate_left
        · intro w'
          first | (go_simp; done) | (go_simp; with_reducible rfl)
        refine wpAnyG_pureW (i := 7) (v := ?_) rfl (by kernel_rfl) (by kernel_rfl) (by kernel_rfl) (fun _ _ _ h => h) (by kernel_rfl) ?_ ?_
        rotate_left
        · intro w'
          first | (go_simp; done) | (go_simp; with_reducible rfl)
        refine wpAnyG_takeW (i := 8) (v := ?_) rfl (by kernel_rfl) (by kernel_rfl) (by kernel_rfl) (by kernel_rfl) (fun _ _ _ h => h) hS (by kernel_rfl) ?_ ?_
        rotate_left
        · intro w' hSw
          (try dsimp only at hSw)
          first | (go_simp; done) | (go_simp; with_reducible rfl)
        refine wpAnyG_pureW (i := 9) (v := ?_) rfl (by kernel_rfl) (by kernel_rfl) (by kernel_rfl) (fun _ _ _ h => h) (by kernel_rfl) ?_ ?_
        rotate_left
        · intro w'
          first | (go_simp; done) | (go_simp; with_reducible rfl)
        refine wpAnyG_pureW (i := 10) (v := ?_) rfl (by kernel_rfl) (by kernel_rfl) (by kernel_rfl) (fun _ _ _ h => h) (by kernel_rfl) ?_ ?_
        rotate_left
        · intro w'
          first | (go_simp; done) | (go_simp; with_reducible rfl)
        clear hS
        refine wpAnyG_done (by kernel_rfl) ?_ _
        go_simp
        go_wp2_with fail
        go_ret
        exact ⟨by rw [HX.out, HTK.out]; rfl, (HG.out.trans (grown_drew _ _)).trans (grown_drew _ _), by rw [HTK.out, ← HJ.out]; exact HR.out⟩
    · have hlt' : ¬ (j : Int) < (s.size : Int) := by omega
      have HTK := Lib.hid (show (s.data.toList.drop a).takeWhile p = x from by rw [HT.out, take_end _ (by have := HLEN.out; omega), List.append_nil])
      clear HT HD
      go_upto_region 2 with fail
      refine wp_region_G (S := (fun W : World => W.cell? ⟨X, 0, none⟩ = some (.string s) ∧ W.cell? ⟨X, 1, none⟩ = some (.int .i64 (j : Int)))) (T := []) (by kernel_rfl) ?_
      have hS : (fun W : World => W.cell? ⟨X, 0, none⟩ = some (.string s) ∧ W.cell? ⟨X, 1, none⟩ = some (.int .i64 (j : Int))) wr.drew := ⟨HR.out.c0, HR.out.c1⟩
      refine wpAnyG_pureW (i := 0) (v := ?_) rfl (by kernel_rfl) (by kernel_rfl) (by kernel_rfl) (fun _ _ _ h => h) (by kernel_rfl) ?_ ?_
      rotate_left
      · intro w'
        first | (go_simp; done) | (go_simp; with_reducible rfl)
      refine wpAnyG_pureW (i := 1) (v := ?_) rfl (by kernel_rfl) (by kernel_rfl) (by kernel_rfl) (fun _ _ _ h => h) (by kernel_rfl) ?_ ?_
      rotate_left
      · intro w'
        first | (go_simp; done) | (go_simp; with_reducible rfl)
      refine wpAnyG_pureW (i := 2) (v := ?_) rfl (by kernel_rfl) (by kernel_rfl) (by kernel_rfl) (fun _ _ _ h => h) (by kernel_rfl) ?_ ?_
      rotate_left
      · intro w'
        first | (go_simp; done) | (go_simp; with_reducible rfl)
      refine wpAnyG_takeW (i := 3) (v := ?_) rfl (by kernel_rfl) (by kernel_rfl) (by kernel_rfl) (by kernel_rfl) (fun _ _ _ h => h) hS (by kernel_rfl) ?_ ?_
      rotate_left
      · intro w' hSw
        (try dsimp only at hSw)
        first | (go_simp; done) | (go_simp; with_reducible rfl)
      refine wpAnyG_pureW (i := 4) (v := ?_) rfl (by kernel_rfl) (by kernel_rfl) (by kernel_rfl) (fun _ _ _ h => h) (by kernel_rfl) ?_ ?_
      rotate_left
      · intro w'
        first | (go_simp; done) | (go_simp; with_reducible rfl)
      refine wpAnyG_pureW (i := 5) (v := ?_) rfl (by kernel_rfl) (by kernel_rfl) (by kernel_rfl) (fun _ _ _ h => h) (by kernel_rfl) ?_ ?_
      rotate_left
      · intro w'
        first | (go_simp; done) | (go_simp; with_reducible rfl)
      refine wpAnyG_pureW (i := 6) (v := ?_) rfl (by kernel_rfl) (by kernel_rfl) (by kernel_rfl) (fun _ _ _ h => h) (by kernel_rfl) ?_ ?_
      rotate_left
      · intro w'
        first | (go_simp; done) | (go_simp; with_reducible rfl)
      refine wpAnyG_takeW (i := 7) (v := ?_) rfl (by kernel_rfl) (by kernel_rfl) (by kernel_rfl) (by kernel_rfl) (fun _ _ _ h => h) hS (by kernel_rfl) ?_ ?_
      rotate_left
      · intro w' hSw
        (try dsimp only at hSw)
        first | (go_simp; done) | (go_simp; with_reducible rfl)
      refine wpAnyG_pureW (i := 8) (v := ?_) rfl (by kernel_rfl) (by kernel_rfl) (by kernel_rfl) (fun _ _ _ h => h) (by kernel_rfl) ?_ ?_
      rotate_left
      · intro w'
        first | (go_simp; done) | (go_simp; with_reducible rfl)
      refine wpAnyG_pureW (i := 9) (v := ?_) rfl (by kernel_rfl) (by kernel_rfl) (by kernel_rfl) (fun _ _ _ h => h) (by kernel_rfl) ?_ ?_
      rotate_left
      · intro w'
        first | (go_simp; done) | (go_simp; with_reducible rfl)
      refine wpAnyG_pureW (i := 10) (v := ?_) rfl (by kernel_rfl) (by kernel_rfl) (by kernel_rfl) (fun _ _ _ h => h) (by kernel_rfl) ?_ ?_
      rotate_left
      · intro w'
        first | (go_simp; done) | (go_simp; with_reducible rfl)
      refine wpAnyG_skipW (i := 11) rfl (by kernel_rfl) (by kernel_rfl) (by kernel_rfl) (fun _ _ _ h => h) (by kernel_rfl) ?_
      refine wpAnyG_skipW (i := 12) rfl (by kernel_rfl) (by kernel_rfl) (by kernel_rfl) (fun _ _ _ h => h) (by kernel_rfl) ?_
      refine wpAnyG_skipW (i := 13) rfl (by kernel_rfl) (by kernel_rfl) (by kernel_rfl) (fun _ _ _ h => h) (by kernel_rfl) ?_
      refine wpAnyG_skipW (i := 14) rfl (by kernel_rfl) (by kernel_rfl) (by kernel_rfl) (fun _ _ _ h => h) (by kernel_rfl) ?_
      refine wpAnyG_skipW (i := 15) rfl (by kernel_rfl) (by kernel_rfl) (by kernel_rfl) (fun _ _ _ h => h) (by kernel_rfl) ?_
      refine wpAnyG_skipW (i := 16) rfl (by kernel_rfl) (by kernel_rfl) (by kernel_rfl) (fun _ _ _ h => h) (by kernel_rfl) ?_
      refine wpAnyG_skipW (i := 17) rfl (by kernel_rfl) (by kernel_rfl) (by kernel_rfl) (fun _ _ _ h => h) (by kernel_rfl) ?_
      refine wpAnyG_skipW (i := 18) rfl (by kernel_rfl) (by kernel_rfl) (by kernel_rfl) (fun _ _ _ h => h) (by kernel_rfl) ?_
      refine wpAnyG_skipW (i := 19) rfl (by kernel_rfl) (by kernel_rfl) (by kernel_rfl) (fun _ _ _ h => h) (by kernel_rfl) ?_
      refine wpAnyG_skipW (i := 20) rfl (by kernel_rfl) (by kernel_rfl) (by kernel_rfl) (fun _ _ _ h => h) (by kernel_rfl) ?_
      refine wpAnyG_skipW (i := 21) rfl (by kernel_rfl) (by kernel_rfl) (by kernel_rfl) (fun _ _ _ h => h) (by kernel_rfl) ?_
      refine wpAnyG_skipW (i := 22) rfl (by kernel_rfl) (by kernel_rfl) (by kernel_rfl) (fun _ _ _ h => h) (by kernel_rfl) ?_
      refine wpAnyG_pureW (i := 23) (v := ?_) rfl (by kernel_rfl) (by kernel_rfl) (by kernel_rfl) (fun _ _ _ h => h) (by kernel_rfl) ?_ ?_
      rotate_left
      · intro w'
        first | (go_simp; done) | (go_simp; with_reducible rfl)
      clear hS
      refine wpAnyG_done (by kernel_rfl) ?_ _
      go_simp
      go_upto_region 4 with fail
      refine wp_region_G (S := (fun W : World => W.cell? ⟨X, 0, none⟩ = some (.string s) ∧ W.cell? ⟨X, 1, none⟩ = some (.int .i64 (j : Int)))) (T := []) (by kernel_rfl) ?_
      have hS : (fun W : World => W.cell? ⟨X, 0, none⟩ = some (.string s) ∧ W.cell? ⟨X, 1, none⟩ = some (.int .i64 (j : Int))) wr.drew.drew := ⟨HR.out.c0, HR.out.c1⟩
      refine wpAnyG_pureW (i := 0) (v := ?_) rfl (by kernel_rfl) (by kernel_rfl) (by kernel_rfl) (fun _ _ _ h => h) (by kernel_rfl) ?_ ?_
      rotate_left
      · intro w'
        first | (go_simp; done) | (go_simp; with_reducible rfl)
      refine wpAnyG_pureW (i := 1) (v := ?_) rfl (by kernel_rfl) (by kernel_rfl) (by kernel_rfl) (fun _ _ _ h => h) (by kernel_rfl) ?_ ?_
      rotate_left
      · intro w'
        first | (go_simp; done) | (go_simp; with_reducible rfl)
      refine wpAnyG_pureW (i := 2) (v := ?_) rfl (by kernel_rfl) (by kernel_rfl) (by kernel_rfl) (fun _ _ _ h => h) (by kernel_rfl) ?_ ?_
      rotate_left
      · intro w'
        first | (go_simp; done) | (go_simp; with_reducible rfl)
      refine wpAnyG_takeW (i := 3) (v := ?_) rfl (by kernel_rfl) (by kernel_rfl) (by kernel_rfl) (by kernel_rfl) (fun _ _ _ h => h) hS (by kernel_rfl) ?_ ?_
      rotate_left
      · intro w' hSw
        (try dsimp only at hSw)
        first | (go_simp; done) | (go_simp; with_reducible rfl)
      refine wpAnyG_pureW (i := 4) (v := ?_) rfl (by kernel_rfl) (by kernel_rfl) (by kernel_rfl) (fun _ _ _ h => h) (by kernel_rfl) ?_ ?_
      rotate_left
      · intro w'
        first | (go_simp; done) | (go_simp; with_reducible rfl)
      refine wpAnyG_pureW (i := 5) (v := ?_) rfl (by kernel_rfl) (by kernel_rfl) (by kernel_rfl) (fun _ _ _ h => h) (by kernel_rfl) ?_ ?_
      rotate_left
      · intro w'
        first | (go_simp; done) | (go_simp; with_reducible rfl)
      refine wpAnyG_pureW (i := 6) (v := ?_) rfl (by kernel_rfl) (by kernel_rfl) (by kernel_rfl) (fun _ _ _ h => h) (by kernel_rfl) ?_ ?_
      rotate_left
      · intro w'
        first | (go_simp; done) | (go_simp; with_reducible rfl)
      refine wpAnyG_pureW (i := 7) (v := ?_) rfl (by kernel_rfl) (by kernel_rfl) (by kernel_rfl) (fun _ _ _ h => h) (by kernel_rfl) ?_ ?_
      rotate_left
      · intro w'
        first | (go_simp; done) | (go_simp; with_reducible rfl)
      refine wpAnyG_takeW (i := 8) (v := ?_) rfl (by kernel_rfl) (by kernel_rfl) (by kernel_rfl) (by kernel_rfl) (fun _ _ _ h => h) hS (by kernel_rfl) ?_ ?_
      rotate_left
      · intro w' hSw
        (try dsimp only at hSw)
        first | (go_simp; done) | (go_simp; with_reducible rfl)
      refine wpAnyG_pureW (i := 9) (v := ?_) rfl (by kernel_rfl) (by kernel_rfl) (by kernel_rfl) (fun _ _ _ h => h) (by kernel_rfl) ?_ ?_
      rotate_left
      · intro w'
        first | (go_simp; done) | (go_simp; with_reducible rfl)
      refine wpAnyG_pureW (i := 10) (v := ?_) rfl (by kernel_rfl) (by kernel_rfl) (by kernel_rfl) (fun _ _ _ h => h) (by kernel_rfl) ?_ ?_
      rotate_left
      · intro w'
        first | (go_simp; done) | (go_simp; with_reducible rfl)
      clear hS
      refine wpAnyG_done (by kernel_rfl) ?_ _
      go_simp
      go_wp2_with fail
      go_ret
      exact ⟨by rw [HX.out, HTK.out]; rfl, (HG.out.trans (grown_drew _ _)).trans (grown_drew _ _), by rw [HTK.out, ← HJ.out]; exact HR.out⟩
end Go.Proofs.YtbddnohbkafagaaGreatDoor

/-
Tokens: the reader between its marks: attrName, past.
-/
namespace Go.Proofs.YtbddnohbkafagaaGreatDoor
open Go.RowKit Go.Cl
attribute [local go_sem ↓] Go.wp_at_zero Go.wp_at_succ
theorem tst {a b c : World} (h1 : Below a.heap.size a b) (h2 : Below b.heap.size b c) : Below a.heap.size a c := h1.trans (h2.mono h1.size)
theorem tal {a b : World} (h : Below a.heap.size a b) (o : Obj) : Below a.heap.size a (b.alloc o) := h.alloc h.size o
theorem tdrew (w : World) : Below w.heap.size w w.drew := ⟨rfl, rfl, rfl, Nat.le_refl _, fun _ _ => rfl⟩
theorem tdrewN (w : World) (n : Nat) : Below w.heap.size w (w.drewN n) := ⟨rfl, rfl, rfl, Nat.le_refl _, fun _ _ => rfl⟩
theorem ext_tail (c : UInt8) (t : List UInt8) : (⟨(c :: t).toArray⟩ : ByteArray).extract 1 (t.length + 1) = ⟨t.toArray⟩ := by
  apply ByteArray.ext
  apply Array.toList_inj.1
  rw [ByteArray.data_extract, Array.toList_extract, List.extract_eq_take_drop]
  simp
theorem ba_cons (c : UInt8) (t : List UInt8) : (⟨#[c]⟩ : ByteArray) ++ ⟨t.toArray⟩ = ⟨(c :: t).toArray⟩ := by
  apply ByteArray.ext
  rw [ByteArray.data_append]
  simp
theorem nameL_len (l : List UInt8) : (nameL l).length ≤ 40 := by
  unfold nameL
  rw [List.length_map, List.length_take]
  omega
theorem tkAttrName_any (s : ByteArray) (w : World) : Calls Tryz.prog 36 #[.string s] w fun e w' => e = .returned (.string ⟨(attrL s.data.toList).toArray⟩) ∧ Below w.heap.size w w' := by
  have HN := Lib.hid (tkName_any s w)
  have hl := nameL_len s.data.toList
  have hat : attrL s.data.toList = match nameL s.data.toList with
    | [] => []
    | c :: t => if dashB c then c :: t else 95 :: t := rfl
  cases hn : nameL s.data.toList with
  | nil =>
    rw [hn] at HN hat
    have HA := Lib.hid hat
    clear hat hl hn
    go_enter Tryz.func36, Tryz.ntmps36
    go_wp2_with (go_at_call 24; refine HN.out.mono ?_; rintro e w2 ⟨rfl, hb2⟩)
    go_ret
    exact ⟨by rw [HA.out]; rfl, hb2⟩
  | cons c t =>
    rw [hn] at HN hat hl
    obtain ⟨nS, hnS⟩ : ∃ nS : ByteArray, (⟨(c :: t).toArray⟩ : ByteArray) = nS := ⟨_, rfl⟩
    rw [hnS] at HN
    have hsz : nS.size = t.length + 1 := by rw [← hnS]; show (c :: t).toArray.size = _; simp
    have h0 : 0 < nS.size := by omega
    have hc : nS[0] = c := by subst hnS; rfl
    have HX := Lib.hid (show nS.extract 1 nS.size = ⟨t.toArray⟩ from by rw [hsz, ← hnS]; exact ext_tail c t)
    have t0 : (nS.toList == []) = false := beq_eq_false_iff_ne.2 fun e => by
      have h1 := isE_not h0
      rw [e] at h1
      cases h1
    have t1 : (nS.toList != []) = true := by simp only [bne, t0]; rfl
    have t2 := isE_not h0
    have HLT := Lib.hid fun u : World => letter_any nS[0] u
    have HNS := Lib.hid hnS
    have HAT := Lib.hid hat
    have h40 : nS.size ≤ 40 := by rw [List.length_cons] at hl; omega
    have HL40 : Hid (t.length ≤ 40) := by rw [List.length_cons] at hl; show _ ≤ _; omega
    clear hat hn hl hsz hnS
    cases hlc : letterB c with
    | true =>
      have HA := Lib.hid (show attrL s.data.toList = c :: t from by rw [HAT.out]; show (if dashB c then _ else _) = _; rw [show dashB c = true from by unfold dashB; rw [hlc]; rfl]; rfl)
      have HL1 := Lib.hid (fun u => by have h := HLT.out u; rw [hc, hlc] at h; rw [← hc] at h; exact h)
      clear hlc HLT hc HAT
      go_enter Tryz.func36, Tryz.ntmps36
      go_wp2_with (first | (go_at_call 24; refine HN.out.mono ?_; rintro e w2 ⟨rfl, hb2⟩) | (go_at_call 35; refine (HL1.out _).mono ?_; rintro e w3 ⟨rfl, rfl⟩))
      go_ret
      exact ⟨by rw [HA.out, HNS.out]; rfl, hb2⟩
    | false =>
      have HL1 := Lib.hid (fun u => by have h := HLT.out u; rw [hc, hlc] at h; rw [← hc] at h; exact h)
      by_cases h45 : c = 45
      · have HA := Lib.hid (show attrL s.data.toList = c :: t from by rw [HAT.out]; show (if dashB c then _ else _) = _; rw [show dashB c = true from by unfold dashB; rw [h45]; simp]; rfl)
        have e1 : ((nS[0].toNat : Int) != 45) = false := by rw [hc, h45]; rfl
        clear hlc HLT hc HAT h45
        go_enter Tryz.func36, Tryz.ntmps36
        go_wp2_with (first | (go_at_call 24; refine HN.out.mono ?_; rintro e w2 ⟨rfl, hb2⟩) | (go_at_call 35; refine (HL1.out _).mono ?_; rintro e w3 ⟨rfl, rfl⟩))
        go_ret
        exact ⟨by rw [HA.out, HNS.out]; rfl, hb2⟩
      · have HA := Lib.hid (show attrL s.data.toList = 95 :: t from by rw [HAT.out]; show (if dashB c then _ else _) = _; rw [show dashB c = false from by unfold dashB; rw [hlc]; simp [h45]]; rfl)
        have e0 : ((nS[0].toNat : Int) == 45) = false := by rw [hc]; exact u8_ne (c := 45) (by decide) h45
        have e1 : ((nS[0].toNat : Int) != 45) = true := by simp only [bne, e0]; rfl
        have i1 : (1 : Int) ≤ (nS.size : Int) := by omega
        clear hlc HLT hc HAT h45
        go_enter Tryz.func36, Tryz.ntmps36
        go_wp2_with (first | (go_at_call 24; refine HN.out.mono ?_; rintro e w2 ⟨rfl, hb2⟩) | (go_at_call 35; refine (HL1.out _).mono ?_; rintro e w3 ⟨rfl, rfl⟩))
        go_ret
        exact ⟨by rw [HA.out, HX.out]; exact congrArg (fun x => Ending.returned (.string x)) (ba_cons 95 t), hb2⟩
/-! ### the reader's place -/
/-- The reader in its box, and what is left of its text. -/
structure Rd (w : World) (X : Nat) (s : ByteArray) (r : List UInt8) (E : Int) (O : Value) : Prop where
  at_ : ∃ a, a ≤ s.size ∧ s.data.toList.drop a = r ∧ Rc w X s a E O
  mx : ∃ m : Int, w.cell? ⟨0, 0, none⟩ = some (.int .i64 m)
section
variable {w w' : World} {X : Nat} {s : ByteArray} {r : List UInt8} {E : Int} {O : Value}
theorem Rc.ne0 {a : Nat} (h : Rc w X s a E O) (hm : ∃ m : Int, w.cell? ⟨0, 0, none⟩ = some (.int .i64 m)) : X ≠ 0 := by
  rintro rfl
  obtain ⟨m, hm⟩ := hm
  rw [h.c0] at hm
  cases hm
theorem mx_next (hm : ∃ m : Int, w.cell? ⟨0, 0, none⟩ = some (.int .i64 m)) (hb : Below w.heap.size w w') : ∃ m : Int, w'.cell? ⟨0, 0, none⟩ = some (.int .i64 m) := by
  obtain ⟨m, hm⟩ := hm
  exact ⟨m, cell_be hm hb⟩
theorem mx_grown (hm : ∃ m : Int, w.cell? ⟨0, 0, none⟩ = some (.int .i64 m)) (hX : X ≠ 0) (hg : w.grownBy w' (some X)) : ∃ m : Int, w'.cell? ⟨0, 0, none⟩ = some (.int .i64 m) := by
  obtain ⟨m, hm⟩ := hm
  exact ⟨m, hg.cell hm (by simpa using fun e : 0 = X => hX e.symm)⟩
theorem Rd.next (h : Rd w X s r E O) (hb : Below w.heap.size w w') : Rd w' X s r E O := by
  obtain ⟨a, h1, h2, h3⟩ := h.at_
  exact ⟨⟨a, h1, h2, h3.next hb⟩, mx_next h.mx hb⟩
theorem Rd.drew (h : Rd w X s r E O) : Rd w.drew X s r E O := h.next (tdrew w)
end
theorem cut_shape (r mark : List UInt8) : (∃ i, i + mark.length ≤ r.length ∧ Lib.cut r mark = (r.take i, r.drop (i + mark.length), true)) ∨ Lib.cut r mark = (r, [], false) := by
  unfold Lib.cut
  by_cases h : 0 ≤ Lib.index r mark
  · have h1 := Lib.index_room r mark h
    rw [if_pos h]
    exact .inl ⟨(Lib.index r mark).toNat, by omega, rfl⟩
  · rw [if_neg h]
    exact .inr rfl
theorem rest_str (s : ByteArray) {a : Nat} {r : List UInt8} (hr : s.data.toList.drop a = r) : (s.extract a s.size).data.toList = r := by
  rw [ByteArray.data_extract, Array.toList_extract, List.extract_eq_take_drop, ← hr]
  have : s.size = s.data.toList.length := by simp
  rw [this, List.take_of_length_le (by rw [List.length_drop]; omega)]
theorem drop_all {s : ByteArray} {a : Nat} (h : a = s.size) : s.data.toList.drop a = [] := by
  have h2 : s.data.toList.length = s.size := by simp
  exact List.drop_eq_nil_of_le (by omega)
theorem drop_len {s : ByteArray} {a : Nat} {r : List UInt8} (ha : a ≤ s.size) (hr : s.data.toList.drop a = r) : a + r.length = s.size := by
  have h2 : s.data.toList.length = s.size := by simp
  rw [← hr, List.length_drop]
  omega
set_option maxRecDepth 100000 in
set_option maxHeartbeats 4000000 in
theorem past_any (X : Nat) (s : ByteArray) (r : List UInt8) (mark : ByteArray) (E : Int) (O : Value) (w : World) (hs : s.size ≤ 1000000) (hmk : mark.size ≤ 1000) (h : Rd w X s r E O) :
    Calls Tryz.prog 52 #[.pointer (some ⟨X, 0, none⟩), .string mark] w fun e w' => e = .returned (.tuple #[.string ⟨(Lib.cut r mark.data.toList).1.toArray⟩, .bool (Lib.cut r mark.data.toList).2.2]) ∧ w.grownBy w' (some X) ∧ Rd w' X s (Lib.cut r mark.data.toList).2.1 E O := by
  obtain ⟨⟨a, ha, hr, hc⟩, m, hm⟩ := h
  have HC := Lib.hid hc
  have HM := Lib.hid hm
  have hX := hc.ne0 ⟨m, hm⟩
  have HX0 : Hid (X ≠ 0) := hX
  obtain ⟨rS, hrS⟩ : ∃ rS : ByteArray, s.extract a s.size = rS := ⟨_, rfl⟩
  have hrl : rS.data.toList = r := by rw [← hrS]; exact rest_str s hr
  have hdl := drop_len ha hr
  have hrz : rS.size = r.length := by rw [← hrl]; simp
  have HCT := Lib.hid (fun (u : World) (hu : u.cell? ⟨0, 0, none⟩ = some (.int .i64 m)) => Tryz.strings_Cut rS mark m u (by omega) hu)
  rw [hrl] at HCT
  have HMK := Lib.hid (show mark.data.toList.length = mark.size by simp)
  have HDR := Lib.hid hr
  have HDL := Lib.hid hdl
  have c0 := hc.c0
  have c1 := hc.c1
  have f1 := hc.fr 1
  have i1 : (0 : Int) ≤ (a : Int) := by omega
  have i2 : (a : Int) ≤ (s.size : Int) := by omega
  have hcs := cut_shape r mark.data.toList
  clear hm hc hX hrl hdl hrz hr
  rcases hcs with ⟨i, hi, hct⟩ | hct
  · rw [hct] at HCT ⊢
    have HTL := Lib.hid (show (r.take i).length = i from by rw [List.length_take]; omega)
    have HI := Lib.hid hi
    obtain ⟨iS, hiS⟩ : ∃ iS : ByteArray, (⟨(r.take i).toArray⟩ : ByteArray) = iS := ⟨_, rfl⟩
    have hiz : iS.size = i := by rw [← hiS]; exact HTL.out
    have b1 : a + i ≤ 1000000 := by have := HDL.out; omega
    rw [hiS] at HCT ⊢
    have HDK := Lib.hid (show s.data.toList.drop (a + i + mark.size) = r.drop (i + mark.data.toList.length) from by rw [← HDR.out, List.drop_drop, HMK.out, Nat.add_assoc])
    have HB2 := Lib.hid (show a + i + mark.size ≤ s.size from by have := HMK.out; have := HDL.out; omega)
    clear hct hi hiS
    go_enter Tryz.func52, Tryz.ntmps52
    go_upto_region 1 with fail
    refine wp_region_G (S := (fun W : World => W.cell? ⟨X, 0, none⟩ = some (.string s) ∧ W.cell? ⟨X, 1, none⟩ = some (.int .i64 (a : Int)))) (T := []) (by kernel_rfl) ?_
    have hS : (fun W : World => W.cell? ⟨X, 0, none⟩ = some (.string s) ∧ W.cell? ⟨X, 1, none⟩ = some (.int .i64 (a : Int))) w.drew := ⟨HC.out.c0, HC.out.c1⟩
    refine wpAnyG_pure (i := 0) (v := ?_) rfl (by kernel_rfl) (by kernel_rfl) (by kernel_rfl) (fun _ _ _ h => h) rfl ?_ ?_
    rotate_left
    · intro w'
      first | (go_simp; done) | (go_simp; with_reducible rfl)
    refine wpAnyG_pure (i := 1) (v := ?_) rfl (by kernel_rfl) (by kernel_rfl) (by kernel_rfl) (fun _ _ _ h => h) rfl ?_ ?_
    rotate_left
    · intro w'
      first | (go_simp; done) | (go_simp; with_reducible rfl)
    refine wpAnyG_pure (i := 2) (v := ?_) rfl (by kernel_rfl) (by kernel_rfl) (by kernel_rfl) (fun _ _ _ h => h) rfl ?_ ?_
    rotate_left
    · intro w'
      first | (go_simp; done) | (go_simp; with_reducible rfl)
    refine wpAnyG_take (i := 3) (v := ?_) rfl (by kernel_rfl) (by kernel_rfl) (by kernel_rfl) (by kernel_rfl) (fun _ _ _ h => h) hS rfl ?_ ?_
    rotate_left
    · intro w' hSw
      (try dsimp only at hSw)
      first | (go_simp; done) | (go_simp; with_reducible rfl)
    refine wpAnyG_pure (i := 4) (v := ?_) rfl (by kernel_rfl) (by kernel_rfl) (by kernel_rfl) (fun _ _ _ h => h) rfl ?_ ?_
    rotate_left
    · intro w'
      first | (go_simp; done) | (go_simp; with_reducible rfl)
    refine wpAnyG_pure (i := 5) (v := ?_) rfl (by kernel_rfl) (by kernel_rfl) (by kernel_rfl) (fun _ _ _ h => h) rfl ?_ ?_
    rotate_left
    · intro w'
      first | (go_simp; done) | (go_simp; with_reducible rfl)
    refine wpAnyG_pure (i := 6) (v := ?_) rfl (by kernel_rfl) (by kernel_rfl) (by kernel_rfl) (fun _ _ _ h => h) rfl ?_ ?_
    rotate_left
    · intro w'
      first | (go_simp; done) | (go_simp; with_reducible rfl)
    refine wpAnyG_take (i := 7) (v := ?_) rfl (by kernel_rfl) (by kernel_rfl) (by kernel_rfl) (by kernel_rfl) (fun _ _ _ h => h) hS rfl ?_ ?_
    rotate_left
    · intro w' hSw
      (try dsimp only at hSw)
      first | (go_simp; done) | (go_simp; with_reducible rfl)
    refine wpAnyG_pure (i := 8) (v := ?_) rfl (by kernel_rfl) (by kernel_rfl) (by kernel_rfl) (fun _ _ _ h => h) rfl ?_ ?_
    rotate_left
    · intro w'
      first | (go_simp; done) | (go_simp; with_reducible rfl)
    refine wpAnyG_pure (i := 9) (v := ?_) rfl (by kernel_rfl) (by kernel_rfl) (by kernel_rfl) (fun _ _ _ h => h) rfl ?_ ?_
    rotate_left
    · intro w'
      first | (go_simp; done) | (go_simp; with_reducible rfl)
    refine wpAnyG_one (i := 10) (by kernel_rfl) rfl rfl (fun K hK => ?_)
    go_simp
    go_at_call 72
    refine (HCT.out w.drew HM.out).mono ?_
    rintro e' w2 ⟨rfl, nq, rfl⟩
    go_wp2_with fail
    refine hK.out _ _ (fun _ _ => hS) ?_
    clear hK K
    refine wpAnyG_pure (i := 11) (v := ?_) rfl (by kernel_rfl) (by kernel_rfl) (by kernel_rfl) (fun _ _ _ h => h) rfl ?_ ?_
    rotate_left
    · intro w'
      first | (go_simp; done) | (go_simp; with_reducible rfl)
    refine wpAnyG_pure (i := 12) (v := ?_) rfl (by kernel_rfl) (by kernel_rfl) (by kernel_rfl) (fun _ _ _ h => h) rfl ?_ ?_
    rotate_left
    · intro w'
      first | (go_simp; done) | (go_simp; with_reducible rfl)
    refine wpAnyG_pure (i := 13) (v := ?_) rfl (by kernel_rfl) (by kernel_rfl) (by kernel_rfl) (fun _ _ _ h => h) rfl ?_ ?_
    rotate_left
    · intro w'
      first | (go_simp; done) | (go_simp; with_reducible rfl)
    refine wpAnyG_pure (i := 14) (v := ?_) rfl (by kernel_rfl) (by kernel_rfl) (by kernel_rfl) (fun _ _ _ h => h) rfl ?_ ?_
    rotate_left
    · intro w'
      first | (go_simp; done) | (go_simp; with_reducible rfl)
    refine wpAnyG_pure (i := 15) (v := ?_) rfl (by kernel_rfl) (by kernel_rfl) (by kernel_rfl) (fun _ _ _ h => h) rfl ?_ ?_
    rotate_left
    · intro w'
      first | (go_simp; done) | (go_simp; with_reducible rfl)
    refine wpAnyG_pure (i := 16) (v := ?_) rfl (by kernel_rfl) (by kernel_rfl) (by kernel_rfl) (fun _ _ _ h => h) rfl ?_ ?_
    rotate_left
    · intro w'
      first | (go_simp; done) | (go_simp; with_reducible rfl)
    clear hS
    refine wpAnyG_done (by kernel_rfl) ?_ _
    go_simp
    go_wp2_with fail
    go_ret2
    rw [show (a : Int) + (i : Int) + (mark.size : Int) = ((a + i + mark.size : Nat) : Int) from by omega, show (a : Int) + (i : Int) = ((a + i : Nat) : Int) from by omega]
    have k0 : Rc (w.drewN (1 + nq)) X s a E O := HC.out
    have k1 := k0.go (a + i)
    have k2 := k1.1.go (a + i + mark.size)
    have hg := ((grown_below (tdrewN w (1 + nq)) (some X)).trans k1.2).trans k2.2
    exact ⟨rfl, hg, ⟨_, HB2.out, HDK.out, k2.1⟩, mx_grown ⟨m, HM.out⟩ HX0.out hg⟩
  · rw [hct] at HCT ⊢
    obtain ⟨iS, hiS⟩ : ∃ iS : ByteArray, (⟨r.toArray⟩ : ByteArray) = iS := ⟨_, rfl⟩
    obtain ⟨i, hi⟩ : ∃ i, r.length = i := ⟨_, rfl⟩
    have hiz : iS.size = i := by rw [← hiS, ← hi]; rfl
    have b1 : a + i ≤ 1000000 := by have := HDL.out; omega
    rw [hiS] at HCT ⊢
    have HB2 := Lib.hid (show a + i = s.size from by rw [← hi]; exact HDL.out)
    clear hct hi hiS
    go_enter Tryz.func52, Tryz.ntmps52
    go_upto_region 1 with fail
    refine wp_region_G (S := (fun W : World => W.cell? ⟨X, 0, none⟩ = some (.string s) ∧ W.cell? ⟨X, 1, none⟩ = some (.int .i64 (a : Int)))) (T := []) (by kernel_rfl) ?_
    have hS : (fun W : World => W.cell? ⟨X, 0, none⟩ = some (.string s) ∧ W.cell? ⟨X, 1, none⟩ = some (.int .i64 (a : Int))) w.drew := ⟨HC.out.c0, HC.out.c1⟩
    refine wpAnyG_pure (i := 0) (v := ?_) rfl (by kernel_rfl) (by kernel_rfl) (by kernel_rfl) (fun _ _ _ h => h) rfl ?_ ?_
    rotate_left
    · intro w'
      first | (go_simp; done) | (go_simp; with_reducible rfl)
    refine wpAnyG_pure (i := 1) (v := ?_) rfl (by kernel_rfl) (by kernel_rfl) (by kernel_rfl) (fun _ _ _ h => h) rfl ?_ ?_
    rotate_left
    · intro w'
      first | (go_simp; done) | (go_simp; with_reducible rfl)
    refine wpAnyG_pure (i := 2) (v := ?_) rfl (by kernel_rfl) (by kernel_rfl) (by kernel_rfl) (fun _ _ _ h => h) rfl ?_ ?_
    rotate_left
    · intro w'
      first | (go_simp; done) | (go_simp; with_reducible rfl)
    refine wpAnyG_take (i := 3) (v := ?_) rfl (by kernel_rfl) (by kernel_rfl) (by kernel_rfl) (by kernel_rfl) (fun _ _ _ h => h) hS rfl ?_ ?_
    rotate_left
    · intro w' hSw
      (try dsimp only at hSw)
      first | (go_simp; done) | (go_simp; with_reducible rfl)
    refine wpAnyG_pure (i := 4) (v := ?_) rfl (by kernel_rfl) (by kernel_rfl) (by kernel_rfl) (fun _ _ _ h => h) rfl ?_ ?_
    rotate_left
    · intro w'
      first | (go_simp; done) | (go_simp; with_reducible rfl)
    refine wpAnyG_pure (i := 5) (v := ?_) rfl (by kernel_rfl) (by kernel_rfl) (by kernel_rfl) (fun _ _ _ h => h) rfl ?_ ?_
    rotate_left
    · intro w'
      first | (go_simp; done) | (go_simp; with_reducible rfl)
    refine wpAnyG_pure (i := 6) (v := ?_) rfl (by kernel_rfl) (by kernel_rfl) (by kernel_rfl) (fun _ _ _ h => h) rfl ?_ ?_
    rotate_left
    · intro w'
      first | (go_simp; done) | (go_simp; with_reducible rfl)
    refine wpAnyG_take (i := 7) (v := ?_) rfl (by kernel_rfl) (by kernel_rfl) (by kernel_rfl) (by kernel_rfl) (fun _ _ _ h => h) hS rfl ?_ ?_
    rotate_left
    · intro w' hSw
      (try dsimp only at hSw)
      first | (go_simp; done) | (go_simp; with_reducible rfl)
    refine wpAnyG_pure (i := 8) (v := ?_) rfl (by kernel_rfl) (by kernel_rfl) (by kernel_rfl) (fun _ _ _ h => h) rfl ?_ ?_
    rotate_left
    · intro w'
      first | (go_simp; done) | (go_simp; with_reducible rfl)
    refine wpAnyG_pure (i := 9) (v := ?_) rfl (by kernel_rfl) (by kernel_rfl) (by kernel_rfl) (fun _ _ _ h => h) rfl ?_ ?_
    rotate_left
    · intro w'
      first | (go_simp; done) | (go_simp; with_reducible rfl)
    refine wpAnyG_one (i := 10) (by kernel_rfl) rfl rfl (fun K hK => ?_)
    go_simp
    go_at_call 72
    refine (HCT.out w.drew HM.out).mono ?_
    rintro e' w2 ⟨rfl, nq, rfl⟩
    go_wp2_with fail
    refine hK.out _ _ (fun _ _ => hS) ?_
    clear hK K
    refine wpAnyG_pure (i := 11) (v := ?_) rfl (by kernel_rfl) (by kernel_rfl) (by kernel_rfl) (fun _ _ _ h => h) rfl ?_ ?_
    rotate_left
    · intro w'
      first | (go_simp; done) | (go_simp; with_reducible rfl)
    refine wpAnyG_pure (i := 12) (v := ?_) rfl (by kernel_rfl) (by kernel_rfl) (by kernel_rfl) (fun _ _ _ h => h) rfl ?_ ?_
    rotate_left
    · intro w'
      first | (go_simp; done) | (go_simp; with_reducible rfl)
    refine wpAnyG_pure (i := 13) (v := ?_) rfl (by kernel_rfl) (by kernel_rfl) (by kernel_rfl) (fun _ _ _ h => h) rfl ?_ ?_
    rotate_left
    · intro w'
      first | (go_simp; done) | (go_simp; with_reducible rfl)
    refine wpAnyG_pure (i := 14) (v := ?_) rfl (by kernel_rfl) (by kernel_rfl) (by kernel_rfl) (fun _ _ _ h => h) rfl ?_ ?_
    rotate_left
    · intro w'
      first | (go_simp; done) | (go_simp; with_reducible rfl)
    refine wpAnyG_pure (i := 15) (v := ?_) rfl (by kernel_rfl) (by kernel_rfl) (by kernel_rfl) (fun _ _ _ h => h) rfl ?_ ?_
    rotate_left
    · intro w'
      first | (go_simp; done) | (go_simp; with_reducible rfl)
    refine wpAnyG_pure (i := 16) (v := ?_) rfl (by kernel_rfl) (by kernel_rfl) (by kernel_rfl) (fun _ _ _ h => h) rfl ?_ ?_
    rotate_left
    · intro w'
      first | (go_simp; done) | (go_simp; with_reducible rfl)
    clear hS
    refine wpAnyG_done (by kernel_rfl) ?_ _
    go_simp
    go_wp2_with fail
    go_ret2
    rw [show (a : Int) + (i : Int) = ((a + i : Nat) : Int) from by omega]
    have k0 : Rc (w.drewN (1 + nq)) X s a E O := HC.out
    have k1 := k0.go (a + i)
    have hg := (grown_below (tdrewN w (1 + nq)) (some X)).trans k1.2
    exact ⟨rfl, hg, ⟨_, Nat.le_of_eq HB2.out, drop_all HB2.out, k1.1⟩, mx_grown ⟨m, HM.out⟩ HX0.out hg⟩
end Go.Proofs.YtbddnohbkafagaaGreatDoor
