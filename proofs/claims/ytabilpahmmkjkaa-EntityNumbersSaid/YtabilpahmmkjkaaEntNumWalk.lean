/-
The law EntityNumbers' walk.
-/
import Derived.Test.YtabilpahmmkjkaaEntNumLaw
namespace Go.Proofs.Ytabilpahmmkjkaa
open Go.RowKit Go.Cl

theorem find_to {s sv : ByteArray} {attr : Bool} {i : Nat} {j : Int} (hs : s.size ≤ 1000000000) (h : findB s attr = (sv, i)) (hj : (i : Int) = j) (w : World) :
    Calls Try.prog 24 #[.string s, .bool attr] w fun e w' => e = .returned (.tuple #[.string sv, .int .i64 j]) ∧ Below w.heap.size w w' := by
  have := find_any s attr w hs
  rw [h, hj] at this
  exact this

theorem dig_less {q k : Nat} {x p : ByteArray} (hx : x.size = 1) (h : 0 < k ∧ q < k ∨ p.size = 0 ∧ q ≤ k) : (q : Int).toNat + (if (x ++ p).size = 0 then 1 else 0) < (k : Int).toNat + (if p.size = 0 then 1 else 0) := by
  rw [if_neg (by rw [ByteArray.size_append]; omega)]
  rcases h with ⟨_, h⟩ | ⟨h, h2⟩
  · split <;> omega
  · rw [if_pos h]; omega

set_option maxRecDepth 100000 in
theorem entityNumbers_walk (ni : Int) (more : ByteArray) (w : World) (hm : more.size ≤ 1152921504606846976) :
    Calls Try.prog 8 #[.int .i64 ni, .string more] w fun e w' => e = .returned (.bool true) ∧ Below w.heap.size w w' := by
  by_cases hn : 0 ≤ ni ∧ ni ≤ 4194304
  · obtain ⟨n, rfl⟩ := Int.eq_ofNat_of_zero_le hn.1
    have hn4 : n ≤ 4194304 := by omega
    clear hn
    go_enter Try.func8, Try.ntmps8
    go_wp2_with fail
    refine (some_any more 50 _ hm (by omega)).mono ?_
    rintro e w1 ⟨⟨m, rfl, hm'⟩, rfl⟩
    go_wp2_with fail
    go_loopw [5, 7] (fun t i wr => ∃ (k : Nat) (p : ByteArray), t = .string p ∧ i = .int .i64 (k : Int) ∧ Digs 10 n k p ∧ w = wr) (fun t i _ => (intOf i).toNat + (match t with | .string p => if p.size = 0 then 1 else 0 | _ => 0))
    case atStart => exact ⟨n, ⟨#[]⟩, rfl, rfl, ⟨by simp, rfl, by simp [ByteArray.size]⟩, rfl⟩
    case round =>
      obtain ⟨k, p, rfl, rfl, hD, rfl⟩ := hrel
      by_cases hgo : 0 < k ∨ p.size = 0
      · skip
        obtain ⟨b, hb1, hb2⟩ := tens_at (k % 10) (Nat.mod_lt _ (by decide))
        have HP := Lib.hid (hD.put (base := 10) (by decide) hgo hb1 hb2)
        have hps := hD.size
        have hd10 : k % 10 < 10 := Nat.mod_lt _ (by decide)
        have hrem : Int.tmod (k : Int) 10 = ((k % 10 : Nat) : Int) := rfl
        have hquo : Int.tdiv (k : Int) 10 = ((k / 10 : Nat) : Int) := rfl
        have HQ := Lib.hid (show 0 < k ∧ k / 10 < k ∨ p.size = 0 ∧ k / 10 ≤ k from hgo.elim (fun h => Or.inl ⟨h, Nat.div_lt_self h (by decide)⟩) (fun h => Or.inr ⟨h, Nat.div_le_self _ _⟩))
        have hq1 : k / 10 ≤ k := Nat.div_le_self _ _
        have hx1 : (tens.extract (k % 10) (k % 10 + 1)).size = 1 := by
          rw [ByteArray.size_extract, show tens.size = 10 from rfl]
          omega
        have HX := Lib.hid hx1
        have hx2 : ((ByteArray.mk #[48, 49, 50, 51, 52, 53, 54, 55, 56, 57]).extract (k % 10) (k % 10 + 1)).size = 1 := hx1
        clear hD hb1 hb2 hx1
        generalize k % 10 = d at *
        generalize k / 10 = q at *
        rcases hgo with hk | hz
        · go_wp2_with fail
          go_roundw
          case rel => exact ⟨q, _, rfl, rfl, HP.out, by first | trivial | rfl⟩
          case measure => exact dig_less HX.out HQ.out
        · have he := empty_of hz
          by_cases hk : 0 < k
          · go_wp2_with fail
            go_roundw
            case rel => exact ⟨q, _, rfl, rfl, HP.out, by first | trivial | rfl⟩
            case measure => exact dig_less HX.out HQ.out
          · go_wp2_with fail
            go_roundw
            case rel => exact ⟨q, _, rfl, rfl, HP.out, by first | trivial | rfl⟩
            case measure => exact dig_less HX.out HQ.out

      · have hk0 : k = 0 := by omega
        have hpz : 0 < p.size := by omega
        subst hk0
        have hne := nempty_of hpz
        have HA := Lib.hid hD
        have hps := hD.size
        clear hD hgo
        go_wp2_with fail
        go_loopw [6, 8] (fun t i wr => ∃ (k : Nat) (p : ByteArray), t = .string p ∧ i = .int .i64 (k : Int) ∧ Digs 16 n k p ∧ w = wr) (fun t i _ => (intOf i).toNat + (match t with | .string p => if p.size = 0 then 1 else 0 | _ => 0))
        case atStart => exact ⟨n, ⟨#[]⟩, rfl, rfl, ⟨by simp, rfl, by simp [ByteArray.size]⟩, rfl⟩
        case round =>
          obtain ⟨k, h, rfl, rfl, hD, rfl⟩ := hrel
          by_cases hgo : 0 < k ∨ h.size = 0
          · skip
            obtain ⟨b, hb1, hb2⟩ := hexs_at (k % 16) (Nat.mod_lt _ (by decide))
            have HP := Lib.hid (hD.put (base := 16) (by decide) hgo hb1 hb2)
            have hps := hD.size
            have hd10 : k % 16 < 16 := Nat.mod_lt _ (by decide)
            have hrem : Int.tmod (k : Int) 16 = ((k % 16 : Nat) : Int) := rfl
            have hquo : Int.tdiv (k : Int) 16 = ((k / 16 : Nat) : Int) := rfl
            have HQ := Lib.hid (show 0 < k ∧ k / 16 < k ∨ h.size = 0 ∧ k / 16 ≤ k from hgo.elim (fun h => Or.inl ⟨h, Nat.div_lt_self h (by decide)⟩) (fun h => Or.inr ⟨h, Nat.div_le_self _ _⟩))
            have hq1 : k / 16 ≤ k := Nat.div_le_self _ _
            have hx1 : (hexs.extract (k % 16) (k % 16 + 1)).size = 1 := by
              rw [ByteArray.size_extract, show hexs.size = 16 from rfl]
              omega
            have HX := Lib.hid hx1
            have hx2 : ((ByteArray.mk #[48, 49, 50, 51, 52, 53, 54, 55, 56, 57, 97, 98, 99, 100, 101, 102]).extract (k % 16) (k % 16 + 1)).size = 1 := hx1
            clear hD hb1 hb2 hx1
            generalize k % 16 = d at *
            generalize k / 16 = q at *
            rcases hgo with hk | hz
            · go_wp2_with fail
              go_roundw
              case rel => exact ⟨q, _, rfl, rfl, HP.out, by first | trivial | rfl⟩
              case measure => exact dig_less HX.out HQ.out
            · have he := empty_of hz
              by_cases hk : 0 < k
              · go_wp2_with fail
                go_roundw
                case rel => exact ⟨q, _, rfl, rfl, HP.out, by first | trivial | rfl⟩
                case measure => exact dig_less HX.out HQ.out
              · go_wp2_with fail
                go_roundw
                case rel => exact ⟨q, _, rfl, rfl, HP.out, by first | trivial | rfl⟩
                case measure => exact dig_less HX.out HQ.out

          · have hk0 : k = 0 := by omega
            have hhz : 0 < h.size := by omega
            subst hk0
            have hnh := nempty_of hhz
            have hhs := hD.size
            have hz1 : (⟨#[38, 35]⟩ ++ p ++ ⟨#[59]⟩ ++ m : ByteArray).size ≤ 1000000000 := by
              rw [ByteArray.size_append, ByteArray.size_append, ByteArray.size_append, show (⟨#[38, 35]⟩ : ByteArray).size = 2 from rfl, show (⟨#[59]⟩ : ByteArray).size = 1 from rfl]
              omega
            have hz2 : (⟨#[38, 35, 120]⟩ ++ h ++ ⟨#[59]⟩ ++ m : ByteArray).size ≤ 1000000000 := by
              rw [ByteArray.size_append, ByteArray.size_append, ByteArray.size_append, show (⟨#[38, 35, 120]⟩ : ByteArray).size = 3 from rfl, show (⟨#[59]⟩ : ByteArray).size = 1 from rfl]
              omega
            have hz3 : (⟨#[38, 35]⟩ ++ p ++ ⟨#[33]⟩ ++ m : ByteArray).size ≤ 1000000000 := by
              rw [ByteArray.size_append, ByteArray.size_append, ByteArray.size_append, show (⟨#[38, 35]⟩ : ByteArray).size = 2 from rfl, show (⟨#[33]⟩ : ByteArray).size = 1 from rfl]
              omega
            have HF1 := Lib.hid (find_to (j := (p.size : Int) + 3) hz1 (find_ten (m := m) (x := 59) HA.out.ok hpz HA.out.val (by decide +kernel) true) (by rw [if_pos rfl]; omega))
            have HF2 := Lib.hid (find_to (j := (h.size : Int) + 4) hz2 (find_hex (m := m) (x := 59) hD.ok hhz hD.val (by decide +kernel) false) (by rw [if_pos rfl]; omega))
            have HF3 := Lib.hid (find_to (j := (p.size : Int) + 2) hz3 (find_ten (m := m) (x := 33) HA.out.ok hpz HA.out.val (by decide +kernel) true) (by rw [if_neg (by decide)]; omega))
            have hsv := nempty_of (sign_pos (min (n : Int) 2097152))
            generalize signB (min (n : Int) 2097152) = sv at *
            clear HA hD hgo hz1 hz2 hz3
            go_wp2_with fail
            refine (HF1.out _).mono ?_
            rintro e w1 ⟨rfl, hb1⟩
            go_wp2_with fail
            refine (HF2.out _).mono ?_
            rintro e w2 ⟨rfl, hb2⟩
            go_wp2_with fail
            refine (HF3.out _).mono ?_
            rintro e w3 ⟨rfl, hb3⟩
            go_wp2_with fail
            refine (entityBegun_any _).mono ?_
            rintro e w4 ⟨rfl, hb4⟩
            go_wp2_with fail
            go_ret
            have z1 := hb1.size
            have z2 := hb2.size
            have z3 := hb3.size
            exact ⟨rfl, hb1.trans ((hb2.mono (by omega)).trans ((hb3.mono (by omega)).trans (hb4.mono (by omega))))⟩
  · have ht : (decide (ni < 0) || decide (ni > 4194304)) = true := by
      simp only [Bool.or_eq_true, decide_eq_true_eq]
      omega
    by_cases h0 : ni < 0
    · go_enter Try.func8, Try.ntmps8
      go_wp2_with fail
      refine (some_any more 50 _ hm (by omega)).mono ?_
      rintro e w1 ⟨⟨m, rfl, hm'⟩, rfl⟩
      go_wp2_with fail
      refine (entityBegun_any _).mono ?_
      rintro e w4 ⟨rfl, hb4⟩
      go_wp2_with fail
      go_ret
      exact ⟨rfl, hb4⟩
    · go_enter Try.func8, Try.ntmps8
      go_wp2_with fail
      refine (some_any more 50 _ hm (by omega)).mono ?_
      rintro e w1 ⟨⟨m, rfl, hm'⟩, rfl⟩
      go_wp2_with fail
      refine (entityBegun_any _).mono ?_
      rintro e w4 ⟨rfl, hb4⟩
      go_wp2_with fail
      go_ret
      exact ⟨rfl, hb4⟩
end Go.Proofs.Ytabilpahmmkjkaa
